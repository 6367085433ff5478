/- Several texts in one: RefP, Strips, Books, RP. No condition beyond those that each part names. -/
import Derived.Test.YtjldcblklbikaaaGet
import Derived.Test.YtjldcblklbikaaaTwins8
import Derived.Handy
/- Options in memory of one's own: how they read. No condition. -/
namespace Go.Proofs.Ytjldcblklbikaaa
open Go.RowKit
set_option linter.unusedVariables false
set_option linter.unusedSimpArgs false
/-- options as values -/
def rowV (M : List Opt) : List Value := M.flatMap fun x => [.int .u8 (x.kind : Int), .slice x.adr x.data.length x.cap]
theorem rowV_length (M : List Opt) : (rowV M).length = M.length * 2 := by
  induction M with
  | nil => rfl
  | cons x M ih => simp only [rowV, List.flatMap_cons, List.length_append, List.length_cons, List.length_nil] at ih ⊢; omega
theorem rowV_snoc (M : List Opt) (x : Opt) : rowV (M ++ [x]) = rowV M ++ [.int .u8 (x.kind : Int), .slice x.adr x.data.length x.cap] := by simp [rowV]
theorem rowV_get {M : List Opt} {i : Nat} {x : Opt} (h : M[i]? = some x) : (rowV M)[i * 2]? = some (.int .u8 (x.kind : Int)) ∧ (rowV M)[i * 2 + 1]? = some (.slice x.adr x.data.length x.cap) := by
  induction M generalizing i with
  | nil => simp at h
  | cons y M ih =>
    match i, h with
    | 0, h => simp at h; subst h; exact ⟨rfl, rfl⟩
    | i + 1, h =>
      have h2 := ih (i := i) (by simpa using h)
      have e : rowV (y :: M) = [.int .u8 (y.kind : Int), .slice y.adr y.data.length y.cap] ++ rowV M := by simp [rowV]
      rw [e, List.getElem?_append_right (by simp; omega), List.getElem?_append_right (by simp; omega)]
      simp only [List.length_cons, List.length_nil]
      rw [show (i + 1) * 2 - (0 + 1 + 1) = i * 2 by omega, show (i + 1) * 2 + 1 - (0 + 1 + 1) = i * 2 + 1 by omega]
      exact h2
/-- their kinds and data alone -/
def kdO (M : List Opt) : List (Nat × List Nat) := M.map fun x => (x.kind, x.data)
def wantO (l : List Nat) (L : List (Nat × Nat × Nat)) : List (Nat × List Nat) := L.map fun x => (x.1, (l.drop x.2.1).take x.2.2)
/-- those of a block -/
def optL (g : Nat) (l : List Nat) (L : List (Nat × Nat × Nat)) : List Opt := L.map fun x => ⟨x.1, some ⟨g, x.2.1, none⟩, x.2.2, (l.drop x.2.1).take x.2.2⟩
theorem optL_kd (g : Nat) (l : List Nat) (L : List (Nat × Nat × Nat)) : kdO (optL g l L) = wantO l L := by simp [kdO, optL, wantO]
theorem rowO_eq {g : Nat} {l : List Nat} {L : List (Nat × Nat × Nat)} (h : ∀ x ∈ L, x.2.1 + x.2.2 ≤ l.length) : rowO g L = rowV (optL g l L) := by
  induction L with
  | nil => rfl
  | cons y L ih =>
    have h1 := ih (fun x hx => h x (List.mem_cons_of_mem _ hx))
    have h2 := h y List.mem_cons_self
    simp only [rowO, rowV, optL, List.flatMap_cons, List.map_cons] at h1 ⊢
    rw [h1, show ((l.drop y.2.1).take y.2.2).length = y.2.2 by rw [List.length_take, List.length_drop]; omega]
/-- a slice at A reads as these options: less is asked of their room -/
structure OptsRd (w : World) (B : Nat) (A : Option Addr) (L : List Opt) : Prop where
  at_ : L ≠ [] → ∃ b o, A = some ⟨b, o, none⟩ ∧ b < B ∧ ∀ i x, L[i]? = some x → w.cell? ⟨b, o + i * 2, none⟩ = some (.int .u8 (x.kind : Int)) ∧ w.cell? ⟨b, o + i * 2 + 1, none⟩ = some (.slice x.adr x.data.length x.cap)
  each : ∀ x ∈ L, Bs w B x.adr x.cap x.data
  many : L.length ≤ 140737488351232
theorem OptsAt.rd {w : World} {B : Nat} {A : Option Addr} {L : List Opt} (h : OptsAt w B A L) : OptsRd w B A L := ⟨h.at_, fun x hx => (h.each x hx).1, h.many⟩
theorem OptsRd.below {w w' : World} {B : Nat} {A : Option Addr} {L : List Opt} (h : OptsRd w B A L) (hb : Below B w w') : OptsRd w' B A L := by
  refine ⟨fun hl => ?_, fun x hx => (h.each x hx).below hb, h.many⟩
  obtain ⟨b, o, e, hlt, hc⟩ := h.at_ hl
  refine ⟨b, o, e, hlt, fun i x hx => ?_⟩
  obtain ⟨h1, h2⟩ := hc i x hx
  exact ⟨(hb.cell (p := ⟨b, o + i * 2, none⟩) hlt).trans h1, (hb.cell (p := ⟨b, o + i * 2 + 1, none⟩) hlt).trans h2⟩
theorem OptsRd.mono {w : World} {B C : Nat} {A : Option Addr} {L : List Opt} (h : OptsRd w B A L) (hB : B ≤ C) : OptsRd w C A L := by
  refine ⟨fun hl => ?_, fun x hx => (h.each x hx).mono hB, h.many⟩
  obtain ⟨b, o, e, hlt, hc⟩ := h.at_ hl
  exact ⟨b, o, e, by omega, hc⟩
theorem own_ne {w : World} {B C n m s s2 e e2 : Nat} {v u : Value} {xs ys : List Value} (h : w.ownsRow B e s v n xs) (k : w.ownsRow C e2 s2 u m ys) (hne : e ≠ e2) : v.ownBlock = none ∨ v.ownBlock ≠ u.ownBlock := by
  rcases h.2 with ⟨rfl, _⟩ | ⟨g, cap, cur, rfl, hb, hg, _⟩
  · exact .inl rfl
  · right
    rcases k.2 with ⟨rfl, _⟩ | ⟨g2, cap2, cur2, rfl, hb2, hg2, _⟩
    · intro x; cases x
    · intro x
      simp only [Value.ownBlock, Option.some.injEq] at x
      subst x
      rw [hg] at hg2
      cases hg2
      exact hne rfl
end Go.Proofs.Ytjldcblklbikaaa

/- Several texts in one: Paint, ApI, Strip, Kept. No condition beyond those that each part names. -/
/- Spans of bytes painted over, and what stays of others. No program in sight. No condition. -/
namespace Go.Proofs.Ytjldcblklbikaaa
open Go.RowKit
set_option linter.unusedVariables false
set_option linter.unusedSimpArgs false
/-- cells, those from a to b of them v -/
def paint (cs : Array Value) (a b : Nat) (v : Value) : Array Value := cs.mapIdx fun i x => if a ≤ i ∧ i < b then v else x
theorem paint_size (cs : Array Value) (a b : Nat) (v : Value) : (paint cs a b v).size = cs.size := by simp [paint]
theorem paint_get (cs : Array Value) (a b : Nat) (v : Value) (i : Nat) : (paint cs a b v)[i]? = cs[i]?.map fun x => if a ≤ i ∧ i < b then v else x := by simp [paint]
theorem paint_none (cs : Array Value) (a : Nat) (v : Value) : paint cs a a v = cs := by
  apply Array.ext_getElem?
  intro i
  rw [paint_get]
  cases cs[i]? with
  | none => rfl
  | some x => simp only [Option.map_some]; rw [if_neg (by omega)]
theorem paint_one {cs : Array Value} {a b : Nat} {v : Value} (h : a ≤ b) : (paint cs a b v).setIfInBounds b v = paint cs a (b + 1) v := by
  apply Array.ext_getElem?
  intro i
  rw [Array.getElem?_setIfInBounds, paint_get, paint_get, paint_size]
  by_cases hi : b = i
  · subst hi
    rw [if_pos rfl]
    by_cases hs : b < cs.size
    · rw [if_pos hs, Array.getElem?_eq_getElem hs]
      simp only [Option.map_some]; rw [if_pos (by omega)]
    · rw [if_neg hs, Array.getElem?_eq_none (by omega)]; rfl
  · rw [if_neg hi]
    cases cs[i]? with
    | none => rfl
    | some x => simp only [Option.map_some]; congr 1; by_cases hc : a ≤ i ∧ i < b
                · rw [if_pos hc, if_pos (by omega)]
                · rw [if_neg hc, if_neg (by omega)]
/-- a slice of bytes: where it stands, its length, its room -/
structure Span where
  adr : Option Addr
  len : Nat
  cap : Nat
/-- its cells stand in a block from lo on, below hi -/
structure SpanIn (lo hi : Nat) (w : World) (x : Span) : Prop where
  fit : x.len ≤ x.cap
  max : x.cap ≤ 9223372036854775807
  at_ : (x.adr = none ∧ x.cap = 0) ∨ ∃ g o cs, x.adr = some ⟨g, o, none⟩ ∧ lo ≤ g ∧ g < hi ∧ w.heap[g]? = some (.cells cs 5 (0, 0)) ∧ o + x.cap ≤ cs.size
/-- its places from a to b hold v -/
def SpanIs (w : World) (x : Span) (a b : Nat) (v : Value) : Prop := ∀ g o, x.adr = some ⟨g, o, none⟩ → ∀ k, a ≤ k → k < b → w.cell? ⟨g, o + k, none⟩ = some v
/-- w' is w, the places from a to b of x painted v; what was drawn aside -/
structure Painted (x : Span) (a b : Nat) (v : Value) (w w' : World) : Prop where
  os : w'.os = w.os
  tape : w'.tape = w.tape
  output : w'.output = w.output
  size : w.heap.size ≤ w'.heap.size
  turn : ∀ g o cs, x.adr = some ⟨g, o, none⟩ → w.heap[g]? = some (.cells cs 5 (0, 0)) → w'.heap[g]? = some (.cells (paint cs (o + a) (o + b) v) 5 (0, 0))
  other : ∀ k, k < w.heap.size → (∀ o, x.adr ≠ some ⟨k, o, none⟩) → w'.heap[k]? = w.heap[k]?
theorem Painted.start (x : Span) (a : Nat) (v : Value) {w w' : World} (h : Below w.heap.size w w') : Painted x a a v w w' := ⟨h.os, h.tape, h.output, h.size, fun g o cs _ h2 => by rw [paint_none, h.block g (lt_of_blk h2)]; exact h2, fun k hk _ => h.block k hk⟩
theorem Painted.drewN {x : Span} {a b : Nat} {v : Value} {w w' : World} (h : Painted x a b v w w') (j : Nat) : Painted x a b v w (w'.drewN j) := ⟨h.os, h.tape, h.output, h.size, h.turn, h.other⟩
theorem Painted.one {x : Span} {a b lo hi g o : Nat} {v : Value} {w w' : World} (h : Painted x a b v w w') (hab : a ≤ b) (hx : SpanIn lo hi w x) (hA : x.adr = some ⟨g, o, none⟩) : Painted x a (b + 1) v w (w'.setCell ⟨g, o + b, none⟩ v) := by
  rcases hx.at_ with ⟨h1, _⟩ | ⟨g1, o1, cs, h1, h2, h3, h4, h5⟩
  · rw [h1] at hA; cases hA
  rw [h1] at hA; cases hA
  have t := Turned.setCell (h.turn _ _ _ h1 h4) (o + b) v
  rw [paint_one (by omega)] at t
  refine ⟨t.os.trans h.os, t.tape.trans h.tape, t.output.trans h.output, by rw [t.size]; exact h.size, fun g2 o2 cs2 e1 e2 => ?_, fun k hs hk => ?_⟩
  · rw [h1] at e1; cases e1
    rw [h4] at e2; cases e2
    exact t.get (by have := lt_of_blk h4; have := h.size; omega)
  · rw [t.other (fun e => hk o (by rw [h1, e])), h.other k hs hk]
theorem Painted.below {x : Span} {a b lo hi : Nat} {v : Value} {w w' : World} (h : Painted x a b v w w') (hx : SpanIn lo hi w x) (hlo : lo ≤ w.heap.size) : Below lo w w' := by
  refine ⟨h.os, h.tape, h.output, h.size, fun k hk => h.other k (by omega) (fun o e => ?_)⟩
  rcases hx.at_ with ⟨h1, _⟩ | ⟨g1, o1, cs, h1, h2, h3, h4, h5⟩
  · rw [h1] at e; cases e
  · rw [h1] at e; cases e; omega
theorem Painted.span {x y : Span} {a b lo2 hi2 : Nat} {v : Value} {w w' : World} (h : Painted x a b v w w') (hy : SpanIn lo2 hi2 w y) : SpanIn lo2 hi2 w' y := by
  refine ⟨hy.fit, hy.max, ?_⟩
  rcases hy.at_ with h1 | ⟨g, o, cs, h1, h2, h3, h4, h5⟩
  · exact .inl h1
  · by_cases hx : ∃ o2, x.adr = some ⟨g, o2, none⟩
    · obtain ⟨o2, hx⟩ := hx
      exact .inr ⟨g, o, _, h1, h2, h3, h.turn g o2 cs hx h4, by rw [paint_size]; exact h5⟩
    · exact .inr ⟨g, o, cs, h1, h2, h3, (h.other g (lt_of_blk h4) (fun o2 e => hx ⟨o2, e⟩)).trans h4, h5⟩
theorem Painted.is {x : Span} {a b lo hi : Nat} {v : Value} {w w' : World} (h : Painted x a b v w w') (hx : SpanIn lo hi w x) (hb : b ≤ x.cap) : SpanIs w' x a b v := by
  intro g o hA k hk1 hk2
  rcases hx.at_ with ⟨h1, _⟩ | ⟨g1, o1, cs, h1, h2, h3, h4, h5⟩
  · rw [h1] at hA; cases hA
  rw [h1] at hA; cases hA
  rw [cell_blk (h.turn _ _ _ h1 h4), paint_get, Array.getElem?_eq_getElem (by omega)]
  simp only [Option.map_some]; rw [if_pos (by omega)]
theorem Painted.keep {x y : Span} {a b c d lo hi : Nat} {v u : Value} {w w' : World} (h : Painted x a b v w w') (hx : SpanIn lo hi w x) (hy : SpanIs w y c d u)
    (hd : ∀ g o o2, x.adr = some ⟨g, o, none⟩ → y.adr = some ⟨g, o2, none⟩ → o + b ≤ o2 + c ∨ o2 + d ≤ o + a) : SpanIs w' y c d u := by
  intro g o hA k hk1 hk2
  have h0 := hy g o hA k hk1 hk2
  by_cases he : ∃ o2, x.adr = some ⟨g, o2, none⟩
  · obtain ⟨o2, he⟩ := he
    rcases hx.at_ with ⟨h1, _⟩ | ⟨g1, o1, cs, h1, h2, h3, h4, h5⟩
    · rw [h1] at he; cases he
    have he2 := he
    rw [h1] at he2; cases he2
    have := hd _ _ _ he hA
    rw [cell_blk h4] at h0
    rw [cell_blk (h.turn _ _ _ h1 h4), paint_get, h0]
    simp only [Option.map_some]; rw [if_neg (by omega)]
  · refine Eq.trans ?_ h0
    simp only [World.cell?, h.other g (lt_of_cell h0) (fun o2 e => he ⟨o2, e⟩)]
theorem SpanIs.drewN {w : World} {x : Span} {a b : Nat} {v : Value} (h : SpanIs w x a b v) (j : Nat) : SpanIs (w.drewN j) x a b v := h
/-- two spans that have no place in common -/
def apart2 (x y : Span) : Prop := ∀ g o o2, x.adr = some ⟨g, o, none⟩ → y.adr = some ⟨g, o2, none⟩ → o + x.cap ≤ o2 ∨ o2 + y.cap ≤ o
theorem apart2.symm {x y : Span} (h : apart2 x y) : apart2 y x := fun g o o2 h1 h2 => (h g o2 o h2 h1).symm
/-- a span stays where the world stays -/
theorem SpanIn.below {lo hi B : Nat} {w w' : World} {x : Span} (h : SpanIn lo hi w x) (hb : Below B w w') (hB : hi ≤ B) : SpanIn lo hi w' x := by
  refine ⟨h.fit, h.max, ?_⟩
  rcases h.at_ with h1 | ⟨g, o, cs, h1, h2, h3, h4, h5⟩
  · exact .inl h1
  · exact .inr ⟨g, o, cs, h1, h2, h3, (hb.block g (by omega)).trans h4, h5⟩
theorem SpanIn.mono {lo hi hi2 : Nat} {w : World} {x : Span} (h : SpanIn lo hi w x) (hB : hi ≤ hi2) : SpanIn lo hi2 w x := by
  refine ⟨h.fit, h.max, ?_⟩
  rcases h.at_ with h1 | ⟨g, o, cs, h1, h2, h3, h4, h5⟩
  · exact .inl h1
  · exact .inr ⟨g, o, cs, h1, h2, by omega, h4, h5⟩
end Go.Proofs.Ytjldcblklbikaaa

/- A book's spans, filled one behind the other: what holds of them meanwhile. No program in sight. No condition. -/
namespace Go.Proofs.Ytjldcblklbikaaa
open Go.RowKit
set_option linter.unusedVariables false
set_option linter.unusedSimpArgs false
/-- the sign of a leaf, and of its room -/
def sgn (i : Nat) : Int := (1 + (i : Int)) % 256
def rsgn (i : Nat) : Int := (255 - (1 + (i : Int))) % 256
/-- a leaf as a value -/
def leafV (i : Nat) (x : Span) : Value := .iface 84 (.agg #[.slice x.adr x.len x.cap, .int .u8 (sgn i), .int .u8 (rsgn i)])
def rowB (S : List Span) : List Value := S.mapIdx leafV
theorem rowB_length (S : List Span) : (rowB S).length = S.length := by simp [rowB]
theorem rowB_snoc (S : List Span) (x : Span) : rowB (S ++ [x]) = rowB S ++ [leafV S.length x] := by simp [rowB]
theorem rowB_get {S : List Span} {i : Nat} {x : Span} (h : S[i]? = some x) : (rowB S)[i]? = some (leafV i x) := by simp [rowB, h]
theorem apart_of {S : List Span} (hp : S.Pairwise apart2) {i j : Nat} {x y : Span} (hi : S[i]? = some x) (hj : S[j]? = some y) (h : i ≠ j) : apart2 x y := by
  rw [List.pairwise_iff_getElem] at hp
  obtain ⟨h1, rfl⟩ := List.getElem?_eq_some_iff.1 hi
  obtain ⟨h2, rfl⟩ := List.getElem?_eq_some_iff.1 hj
  rcases Nat.lt_or_gt_of_ne h with h3 | h3
  · exact hp i j h1 h2 h3
  · exact (hp j i h2 h1 h3).symm
/-- p leaves are filled, and q rooms -/
structure ApI (w wr : World) (lo kb : Nat) (S : List Span) (p q : Nat) : Prop where
  above : ∀ k, kb ≤ k → k < w.heap.size → wr.heap[k]? = w.heap[k]?
  low : lo ≤ w.heap.size
  below : Below lo w wr
  span : ∀ x ∈ S, SpanIn lo kb wr x
  ins : ∀ j x, j < p → S[j]? = some x → SpanIs wr x 0 x.len (.int .u8 (sgn j))
  outs : ∀ j x, j < q → S[j]? = some x → SpanIs wr x x.len x.cap (.int .u8 (rsgn j))
theorem ApI.start {w : World} {lo kb : Nat} {S : List Span} (h : ∀ x ∈ S, SpanIn lo kb w x) (hlo : lo ≤ w.heap.size) : ApI w w lo kb S 0 0 :=
  ⟨fun _ _ _ => rfl, hlo, Below.refl _ _, h, fun j x hj => absurd hj (by omega), fun j x hj => absurd hj (by omega)⟩
theorem ApI.step {w wr w' : World} {lo kb p q : Nat} {S : List Span} (h : ApI w wr lo kb S p q) (hk : kb ≤ wr.heap.size) (hb : Below wr.heap.size wr w') : ApI w w' lo kb S p q := by
  have hs := h.below.size
  have hl := h.low
  have key : ∀ x a b v, SpanIs wr x a b v → SpanIs w' x a b v := fun x a b v hx g o e k k1 k2 => by
    have := hx g o e k k1 k2
    exact (hb.cell (p := ⟨g, o + k, none⟩) (lt_of_cell this)).trans this
  exact ⟨fun k h1 h2 => (hb.block k (by omega)).trans (h.above k h1 h2), h.low, h.below.trans (hb.mono (by omega)), fun x hx => (h.span x hx).below hb hk, fun j x hj hx => key _ _ _ _ (h.ins j x hj hx), fun j x hj hx => key _ _ _ _ (h.outs j x hj hx)⟩
theorem Painted.above {x : Span} {a b lo hi : Nat} {v : Value} {w w' : World} (h : Painted x a b v w w') (hx : SpanIn lo hi w x) (k : Nat) (hk : hi ≤ k) (hs : k < w.heap.size) : w'.heap[k]? = w.heap[k]? := by
  refine h.other k hs (fun o e => ?_)
  rcases hx.at_ with ⟨h1, _⟩ | ⟨g1, o1, cs, h1, h2, h3, h4, h5⟩
  · rw [h1] at e; cases e
  · rw [h1] at e; cases e; omega
theorem ApI.fill {w wr w' : World} {lo kb p : Nat} {S : List Span} {x : Span} (h : ApI w wr lo kb S p 0) (hp : S.Pairwise apart2) (hx : S[p]? = some x)
    (P : Painted x 0 x.len (.int .u8 (sgn p)) wr w') : ApI w w' lo kb S (p + 1) 0 := by
  have hX := h.span x (List.mem_of_getElem? hx)
  refine ⟨fun k hk hs => (P.above hX k hk (by have := h.below.size; omega)).trans (h.above k hk hs), h.low, h.below.trans (P.below hX (by have := h.below.size; have := h.low; omega)), fun y hy => P.span (h.span y hy), fun j y hj hy => ?_, fun j x hj => absurd hj (by omega)⟩
  by_cases e : j = p
  · subst e
    rw [hx] at hy; cases hy
    exact P.is hX hX.fit
  · have hY := h.span y (List.mem_of_getElem? hy)
    refine P.keep hX (h.ins j y (by omega) hy) (fun g o o2 h1 h2 => ?_)
    have h3 := apart_of hp hx hy (fun e' => e e'.symm) g o o2 h1 h2
    have f1 := hX.fit
    have f2 := hY.fit
    omega
theorem ApI.room {w wr w' : World} {lo kb n q : Nat} {S : List Span} {x : Span} (h : ApI w wr lo kb S n q) (hp : S.Pairwise apart2) (hx : S[q]? = some x)
    (P : Painted x x.len x.cap (.int .u8 (rsgn q)) wr w') : ApI w w' lo kb S n (q + 1) := by
  have hX := h.span x (List.mem_of_getElem? hx)
  have f1 := hX.fit
  refine ⟨fun k hk hs => (P.above hX k hk (by have := h.below.size; omega)).trans (h.above k hk hs), h.low, h.below.trans (P.below hX (by have := h.below.size; have := h.low; omega)), fun y hy => P.span (h.span y hy), fun j y hj hy => ?_, fun j y hj hy => ?_⟩
  · have hY := h.span y (List.mem_of_getElem? hy)
    have f2 := hY.fit
    refine P.keep hX (h.ins j y hj hy) (fun g o o2 h1 h2 => ?_)
    by_cases e : j = q
    · subst e
      rw [hx] at hy; cases hy
      rw [h1] at h2; cases h2
      omega
    · have h3 := apart_of hp hx hy (fun e' => e e'.symm) g o o2 h1 h2
      omega
  · by_cases e : j = q
    · subst e
      rw [hx] at hy; cases hy
      exact P.is hX (Nat.le_refl _)
    · have hY := h.span y (List.mem_of_getElem? hy)
      have f2 := hY.fit
      refine P.keep hX (h.outs j y (by omega) hy) (fun g o o2 h1 h2 => ?_)
      have h3 := apart_of hp hx hy (fun e' => e e'.symm) g o o2 h1 h2
      omega
end Go.Proofs.Ytjldcblklbikaaa

/- A strip of bytes: filled, its room filled, and is it kept: the walks. No condition. -/
namespace Go.Proofs.Ytjldcblklbikaaa
open Go.RowKit
set_option linter.unusedVariables false
set_option linter.unusedSimpArgs false
def FillPost (x : Span) (a b : Nat) (v : Value) (w : World) (e : Ending) (w' : World) : Prop := e = .returned (.tuple #[]) ∧ Painted x a b v w w'
/-- painted, and the box stands -/
structure PB (x : Span) (a b : Nat) (v : Value) (w w' : World) (p : Nat) (o : Obj) : Prop where
  pnt : Painted x a b v w w'
  box : w'.heap[p]? = some o
theorem PB.one {x : Span} {a b lo hi g o p : Nat} {v : Value} {w w' : World} {ob : Obj} (h : PB x a b v w w' p ob) (hab : a ≤ b) (hx : SpanIn lo hi w x) (hA : x.adr = some ⟨g, o, none⟩) (hp : w.heap.size ≤ p) : PB x a (b + 1) v w (w'.setCell ⟨g, o + b, none⟩ v) p ob := by
  refine ⟨h.pnt.one hab hx hA, ?_⟩
  rcases hx.at_ with ⟨h1, _⟩ | ⟨g1, o1, cs, h1, h2, h3, h4, h5⟩
  · rw [h1] at hA; cases hA
  rw [h1] at hA; cases hA
  have := lt_of_blk h4
  exact (Turned.setCell (h.pnt.turn _ _ _ h1 h4) (o + b) v).keep h.box (by omega)
theorem Painted.cell {x : Span} {a b lo hi g o : Nat} {v : Value} {w w' : World} (h : Painted x a b v w w') (hx : SpanIn lo hi w x) (hA : x.adr = some ⟨g, o, none⟩) {k : Nat} (hk : k < x.cap) : ∃ u, w'.cell? ⟨g, o + k, none⟩ = some u ∧ w'.frozen? ⟨g, o + k, none⟩ = false := by
  rcases hx.at_ with ⟨h1, _⟩ | ⟨g1, o1, cs, h1, h2, h3, h4, h5⟩
  · rw [h1] at hA; cases hA
  rw [h1] at hA; cases hA
  have h6 := h.turn _ _ _ h1 h4
  rw [cell_blk h6, frozen_blk h6, paint_get, Array.getElem?_eq_getElem (by omega)]
  exact ⟨_, rfl, rfl⟩
set_option maxRecDepth 100000 in
set_option maxHeartbeats 1000000 in
theorem fill139 {A : Option Addr} {n c lo hi : Nat} (s r : Int) (w : World) (hx : SpanIn lo hi w ⟨A, n, c⟩) :
    Calls Try.prog 103 #[.agg #[.slice A n c, .int .u8 s, .int .u8 r]] w (FillPost ⟨A, n, c⟩ 0 n (.int .u8 s) w) := by
  have hfit : n ≤ c := hx.fit
  have hmax : c ≤ 9223372036854775807 := hx.max
  have HX := Lib.hid hx
  clear hx
  go_enter Try.func103, Try.ntmps103
  go_wp2_with fail
  obtain ⟨p, hp⟩ : ∃ p, p = w.heap.size := ⟨_, rfl⟩
  have HP0 : Hid (PB ⟨A, n, c⟩ 0 0 (.int .u8 s) w (w.alloc (.cells #[.slice A n c, .int .u8 s, .int .u8 r] 84)) w.heap.size (.cells #[.slice A n c, .int .u8 s, .int .u8 r] 84 (0, 0))) := Lib.hid ⟨Painted.start _ _ _ ((Below.refl _ _).alloc (Nat.le_refl _) _), heap_alloc_new _ _⟩
  rw [← hp] at HP0 ⊢
  have NP := Lib.hid hp; clear hp
  go_loopw [2] (fun i wr => ∃ k : Nat, k ≤ n ∧ i = .int .i64 k ∧ PB ⟨A, n, c⟩ 0 k (.int .u8 s) w wr p (.cells #[.slice A n c, .int .u8 s, .int .u8 r] 84 (0, 0))) (fun i _ => n - (intOf i).toNat)
  case atStart => exact ⟨0, Nat.zero_le _, rfl, HP0.out⟩
  case round =>
    clear HP0
    obtain ⟨k, hk, rfl, hB⟩ := hrel
    have b0 := cell_blk hB.box 0
    have b1 := cell_blk hB.box 1
    simp only [List.getElem?_toArray, List.getElem?_cons_zero, List.getElem?_cons_succ] at b0 b1
    by_cases hlt : k < n
    · obtain ⟨g, o, hA⟩ : ∃ g o, A = some ⟨g, o, none⟩ := by
        rcases HX.out.at_ with ⟨h1, h2⟩ | ⟨g, o, cs, h1, _⟩
        · have : c = 0 := h2
          omega
        · exact ⟨g, o, h1⟩
      subst hA
      obtain ⟨u, c0, f0⟩ := hB.pnt.cell HX.out rfl (k := k) (by show k < c; omega)
      have HN := Lib.hid (hB.one (Nat.zero_le _) HX.out rfl (by rw [NP.out]; exact Nat.le_refl _))
      have hpg : p ≠ g := by
        rcases HX.out.at_ with ⟨h1, _⟩ | ⟨g1, o1, cs, h1, h2, h3, h4, h5⟩
        · cases h1
        · cases h1; have := lt_of_blk h4; rw [NP.out]; omega
      clear hB
      go_wp2_with fail
      go_roundw
      case rel => exact ⟨k + 1, by omega, by go_num, HN.out⟩
      case measure => simp [intOf]; omega
    · obtain rfl : k = n := by omega
      have HN := Lib.hid hB
      clear hB
      go_wp2_with fail
      go_end0
      exact ⟨rfl, HN.out.pnt⟩
set_option maxRecDepth 100000 in
set_option maxHeartbeats 1000000 in
theorem room140 {A : Option Addr} {n c lo hi : Nat} (s r : Int) (w : World) (hx : SpanIn lo hi w ⟨A, n, c⟩) :
    Calls Try.prog 104 #[.agg #[.slice A n c, .int .u8 s, .int .u8 r]] w (FillPost ⟨A, n, c⟩ n c (.int .u8 r) w) := by
  have hfit : n ≤ c := hx.fit
  have hmax : c ≤ 9223372036854775807 := hx.max
  have HX := Lib.hid hx
  clear hx
  have HP0 : Hid (PB ⟨A, n, c⟩ n n (.int .u8 r) w (w.alloc (.cells #[.slice A n c, .int .u8 s, .int .u8 r] 84)) w.heap.size (.cells #[.slice A n c, .int .u8 s, .int .u8 r] 84 (0, 0))) := Lib.hid ⟨Painted.start _ _ _ ((Below.refl _ _).alloc (Nat.le_refl _) _), heap_alloc_new _ _⟩
  have hA : (A = none ∧ n = 0 ∧ c = 0) ∨ ∃ g o, A = some ⟨g, o, none⟩ := by
    rcases HX.out.at_ with ⟨h1, h2⟩ | ⟨g, o, cs, h1, _⟩
    · have h2 : c = 0 := h2
      exact .inl ⟨h1, by omega, h2⟩
    · exact .inr ⟨g, o, h1⟩
  go_enter Try.func104, Try.ntmps104
  rcases hA with ⟨rfl, rfl, rfl⟩ | ⟨g, o, rfl⟩
  · go_wp2_with fail
    go_loop [3] (fun i => i = .int .i64 0) (fun i => 0)
    case atStart => rfl
    case round =>
      obtain rfl := hrel
      go_wp2_with fail
      go_end0
      exact ⟨rfl, HP0.out.pnt⟩
  · by_cases hcn : c = n
    · subst hcn
      go_wp2_with fail
      go_loop [3] (fun i => i = .int .i64 0) (fun i => 0)
      case atStart => rfl
      case round =>
        obtain rfl := hrel
        go_wp2_with fail
        go_end0
        exact ⟨rfl, HP0.out.pnt⟩
    · go_wp2_with fail
      obtain ⟨p, hp⟩ : ∃ p, p = w.heap.size := ⟨_, rfl⟩
      rw [← hp] at HP0 ⊢
      have NP := Lib.hid hp; clear hp
      have hpg : p ≠ g := by
        rcases HX.out.at_ with ⟨h1, _⟩ | ⟨g1, o1, cs, h1, h2, h3, h4, h5⟩
        · cases h1
        · cases h1; have := lt_of_blk h4; rw [NP.out]; omega
      go_loopw [3] (fun i wr => ∃ k : Nat, n + k ≤ c ∧ i = .int .i64 k ∧ PB ⟨some ⟨g, o, none⟩, n, c⟩ n (n + k) (.int .u8 r) w wr p (.cells #[.slice (some ⟨g, o, none⟩) n c, .int .u8 s, .int .u8 r] 84 (0, 0))) (fun i _ => c - n - (intOf i).toNat)
      case atStart => exact ⟨0, hfit, rfl, HP0.out⟩
      case round =>
        clear HP0
        obtain ⟨k, hk, rfl, hB⟩ := hrel
        have b2 := cell_blk hB.box 2
        simp only [List.getElem?_toArray, List.getElem?_cons_zero, List.getElem?_cons_succ] at b2
        by_cases hlt : n + k < c
        · obtain ⟨u, c0, f0⟩ := hB.pnt.cell HX.out rfl (k := n + k) hlt
          have HN := Lib.hid (hB.one (Nat.le_add_right _ _) HX.out rfl (by rw [NP.out]; exact Nat.le_refl _))
          rw [← Nat.add_assoc] at c0 f0 HN
          clear hB
          go_wp2_with fail
          go_roundw
          case rel => exact ⟨k + 1, by omega, by go_num, HN.out⟩
          case measure => simp [intOf]; omega
        · have e : n + k = c := by omega
          rw [e] at hB
          have HN := Lib.hid hB
          clear hB
          go_wp2_with fail
          go_end0
          exact ⟨rfl, HN.out.pnt⟩
end Go.Proofs.Ytjldcblklbikaaa

/- Is a strip of bytes kept, it and its room: the walk. No condition. -/
namespace Go.Proofs.Ytjldcblklbikaaa
open Go.RowKit
set_option linter.unusedVariables false
set_option linter.unusedSimpArgs false
def KeptPost (w : World) (e : Ending) (w' : World) : Prop := e = .returned (.bool true) ∧ Below w.heap.size w w'
/-- the box stands, and the span is as it is filled -/
structure KB (x : Span) (u v : Value) (w w' : World) (p : Nat) (o : Obj) : Prop where
  below : Below p w w'
  box : w'.heap[p]? = some o
  ins : SpanIs w' x 0 x.len u
  outs : SpanIs w' x x.len x.cap v
theorem KB.drewN {x : Span} {u v : Value} {w w' : World} {p : Nat} {o : Obj} (h : KB x u v w w' p o) (j : Nat) : KB x u v w (w'.drewN j) p o := ⟨h.below.trans ⟨rfl, rfl, rfl, Nat.le_refl _, fun _ _ => rfl⟩, h.box, h.ins, h.outs⟩
theorem SpanIs.step {w w' : World} {x : Span} {a b : Nat} {v : Value} (h : SpanIs w x a b v) (hb : Below w.heap.size w w') : SpanIs w' x a b v := fun g o hA k k1 k2 => by
  have := h g o hA k k1 k2
  exact (hb.cell (p := ⟨g, o + k, none⟩) (lt_of_cell this)).trans this
set_option maxRecDepth 100000 in
set_option maxHeartbeats 1000000 in
theorem kept141 {A : Option Addr} {n c lo hi : Nat} (s r : Int) (w : World) (hx : SpanIn lo hi w ⟨A, n, c⟩) (hs : SpanIs w ⟨A, n, c⟩ 0 n (.int .u8 s)) (hr : SpanIs w ⟨A, n, c⟩ n c (.int .u8 r)) :
    Calls Try.prog 105 #[.agg #[.slice A n c, .int .u8 s, .int .u8 r]] w (KeptPost w) := by
  have hfit : n ≤ c := hx.fit
  have hmax : c ≤ 9223372036854775807 := hx.max
  have hA : (A = none ∧ n = 0 ∧ c = 0) ∨ ∃ g o, A = some ⟨g, o, none⟩ := by
    rcases hx.at_ with ⟨h1, h2⟩ | ⟨g, o, cs, h1, _⟩
    · have h2 : c = 0 := h2
      exact .inl ⟨h1, by omega, h2⟩
    · exact .inr ⟨g, o, h1⟩
  have hal : Below w.heap.size w (w.alloc (.cells #[.slice A n c, .int .u8 s, .int .u8 r] 84)) := (Below.refl _ _).alloc (Nat.le_refl _) _
  have HP0 : Hid (KB ⟨A, n, c⟩ (.int .u8 s) (.int .u8 r) w (w.alloc (.cells #[.slice A n c, .int .u8 s, .int .u8 r] 84)) w.heap.size (.cells #[.slice A n c, .int .u8 s, .int .u8 r] 84 (0, 0))) := Lib.hid ⟨hal, heap_alloc_new _ _, hs.step hal, hr.step hal⟩
  have ts : (s != s) = false := by simp
  have tr : (r != r) = false := by simp
  clear hx hs hr hal
  go_enter Try.func105, Try.ntmps105
  go_wp2_with fail
  obtain ⟨p, hp⟩ : ∃ p, p = w.heap.size := ⟨_, rfl⟩
  rw [← hp] at HP0 ⊢
  have NP := Lib.hid hp; clear hp
  go_loopw [3] (fun i wr => ∃ k : Nat, k ≤ n ∧ i = .int .i64 k ∧ KB ⟨A, n, c⟩ (.int .u8 s) (.int .u8 r) w wr p (.cells #[.slice A n c, .int .u8 s, .int .u8 r] 84 (0, 0))) (fun i _ => n - (intOf i).toNat)
  case atStart => exact ⟨0, Nat.zero_le _, rfl, HP0.out⟩
  case round =>
    clear HP0
    obtain ⟨k, hk, rfl, hB⟩ := hrel
    have b0 := cell_blk hB.box 0
    have b1 := cell_blk hB.box 1
    simp only [List.getElem?_toArray, List.getElem?_cons_zero, List.getElem?_cons_succ] at b0 b1
    have HB := Lib.hid hB
    clear hB
    by_cases hlt : k < n
    · rcases hA with ⟨rfl, rfl, rfl⟩ | ⟨g, o, rfl⟩
      · omega
      · have c0 := HB.out.ins g o rfl k (Nat.zero_le _) hlt
        go_wp2_with fail
        go_quiet (fail)
        go_wp2_with fail
        go_roundw
        case rel => exact ⟨k + 1, by omega, by go_num, HB.out.drewN _⟩
        case measure => simp [intOf]; omega
    · obtain rfl : k = n := by omega
      rcases hA with ⟨rfl, rfl, rfl⟩ | ⟨g, o, rfl⟩
      · go_wp2_with fail
        go_loop [5] (fun i => i = .int .i64 0) (fun i => 0)
        case atStart => rfl
        case round =>
          obtain rfl := hrel
          go_wp2_with fail
          go_ret
          exact ⟨rfl, by rw [← NP.out]; exact HB.out.below⟩
      · by_cases hcn : c = k
        · subst hcn
          go_wp2_with fail
          go_loop [5] (fun i => i = .int .i64 0) (fun i => 0)
          case atStart => rfl
          case round =>
            obtain rfl := hrel
            go_wp2_with fail
            go_ret
            exact ⟨rfl, by rw [← NP.out]; exact HB.out.below⟩
        · go_wp2_with fail
          go_loopw [5] (fun i wr => ∃ j : Nat, k + j ≤ c ∧ i = .int .i64 j ∧ KB ⟨some ⟨g, o, none⟩, k, c⟩ (.int .u8 s) (.int .u8 r) w wr p (.cells #[.slice (some ⟨g, o, none⟩) k c, .int .u8 s, .int .u8 r] 84 (0, 0))) (fun i _ => c - k - (intOf i).toNat)
          case atStart => exact ⟨0, hfit, rfl, HB.out⟩
          case round =>
            clear HB b0 b1
            obtain ⟨j, hj, rfl, hB⟩ := hrel
            have b2 := cell_blk hB.box 2
            simp only [List.getElem?_toArray, List.getElem?_cons_zero, List.getElem?_cons_succ] at b2
            have HB := Lib.hid hB
            clear hB
            by_cases hlt : k + j < c
            · have c0 := HB.out.outs g o rfl (k + j) (Nat.le_add_right _ _) hlt
              rw [← Nat.add_assoc] at c0
              go_wp2_with fail
              go_quiet (fail)
              go_wp2_with fail
              go_roundw
              case rel => exact ⟨j + 1, by omega, by go_num, HB.out.drewN _⟩
              case measure => simp [intOf]; omega
            · go_wp2_with fail
              go_ret
              exact ⟨rfl, by rw [← NP.out]; exact HB.out.below⟩
end Go.Proofs.Ytjldcblklbikaaa

/- Several texts in one: Spans, Book, Apart. No condition beyond those that each part names. -/
/- The spans that bytes read as options leave: each within its block, all apart. No program in sight. -/
namespace Go.Proofs.Ytjldcblklbikaaa
open Go.RowKit
set_option linter.unusedVariables false
set_option linter.unusedSimpArgs false
def spanOf (x : Opt) : Span := ⟨x.adr, x.data.length, x.cap⟩
theorem twin_span {w : World} {g s kb : Nat} {l : List Nat} (h : w.heap[g]? = some (.cells (row8 (twinL l s)).toArray 5 (0, 0))) (hl : l.length ≤ 5000) (hkb : w.heap.size ≤ kb) : SpanIn g kb w ⟨some ⟨g, 0, none⟩, l.length, l.length + 4⟩ := by
  refine ⟨by show l.length ≤ l.length + 4; omega, by show l.length + 4 ≤ 9223372036854775807; omega, .inr ⟨g, 0, _, rfl, Nat.le_refl _, by have := lt_of_blk h; omega, h, ?_⟩⟩
  show 0 + (l.length + 4) ≤ _
  simp only [List.size_toArray, row8_length, twinL_length]; omega
end Go.Proofs.Ytjldcblklbikaaa

/- A book of lists of bytes: one list more. No condition but that the lists are few. -/
namespace Go.Proofs.Ytjldcblklbikaaa
open Go.RowKit
set_option linter.unusedVariables false
set_option linter.unusedSimpArgs false
/-- the book at kb holds these spans -/
def BookAt (w : World) (kb : Nat) (S : List Span) : Prop := ∃ v, w.heap[kb]? = some (.cells #[v] 33 (0, 0)) ∧ w.ownsRow kb 97 1 v S.length (rowB S)
theorem BookAt.step {w w' : World} {kb : Nat} {S : List Span} (h : BookAt w kb S) (hb : Below w.heap.size w w') : BookAt w' kb S := by
  obtain ⟨v, h1, h2⟩ := h
  exact ⟨v, (hb.block kb (lt_of_blk h1)).trans h1, own_below h2 hb⟩
theorem info87 : (Try.prog.info? 97).map (fun i => (i.zero, i.size, i.bytes)) = some (some .nilIface, 1, 16) := by kernel_rfl
set_option maxRecDepth 100000 in
set_option maxHeartbeats 1000000 in
theorem next54 {kb n c : Nat} {q : Option Addr} (w : World) (h : w.heap[kb]? = some (.cells #[.slice q n c] 33 (0, 0))) (hn : n ≤ 1000000000) :
    Calls Try.prog 32 #[.pointer (some ⟨kb, 0, none⟩)] w fun e w' => e = .returned (.int .i64 (1 + (n : Int))) ∧ w = w' := by
  have c0 := cell_blk h 0
  simp only [List.getElem?_toArray, List.getElem?_cons_zero] at c0
  go_enter Try.func32, Try.ntmps32
  go_wp2_with fail
  go_ret
  exact ⟨rfl, rfl⟩
theorem own_blk {w : World} {B e s n kb T : Nat} {v : Value} {xs : List Value} {cs : Array Value} {z : Nat × Nat} (h : w.ownsRow B e s v n xs) (k : w.heap[kb]? = some (.cells cs T z)) (hne : e ≠ T) : v.ownBlock = none ∨ v.ownBlock ≠ some kb := by
  rcases h.2 with ⟨rfl, _⟩ | ⟨g, cap, cur, rfl, hb, hg, _⟩
  · exact .inl rfl
  · right
    intro x
    simp only [Value.ownBlock, Option.some.injEq] at x
    subst x
    rw [hg] at k
    cases k
    exact hne rfl
def BookPost (kb : Nat) (S : List Span) (w : World) (e : Ending) (w' : World) : Prop := e = .returned (.tuple #[]) ∧ BookAt w' kb S ∧ Below kb w w'
def BookMany (kb : Nat) (S : List Span) (w : World) (e : Ending) (w' : World) : Prop := e = .returned (.tuple #[]) ∧ BookAt w' kb S ∧ Below kb w w'
end Go.Proofs.Ytjldcblklbikaaa

/- Has each list of a book its own memory: the walk. Condition: the lists' spans are apart. -/
namespace Go.Proofs.Ytjldcblklbikaaa
open Go.RowKit
set_option linter.unusedVariables false
set_option linter.unusedSimpArgs false
theorem ApI.leaf {w wr : World} {lo kb p q i n c : Nat} {S : List Span} {A : Option Addr} {x : Span} (h : ApI w wr lo kb S p q) (h2 : w.ownsRow kb 97 1 (.slice A n c) S.length (rowB S)) (hx : S[i]? = some x) :
    ∃ g, A = some ⟨g, 0, none⟩ ∧ wr.cell? ⟨g, i, none⟩ = some (.iface 84 (.agg #[.slice x.adr x.len x.cap, .int .u8 (sgn i), .int .u8 (rsgn i)])) := by
  have hi := (List.getElem?_eq_some_iff.1 hx).1
  rcases h2.2 with ⟨_, h0⟩ | ⟨g, cap, cur, e, hb, hg, hn, hm, hs, ht⟩
  · omega
  · cases e
    refine ⟨g, rfl, ?_⟩
    have h1 := rowB_get hx
    rw [← ht, List.getElem?_take_of_lt (by omega), Array.getElem?_toList] at h1
    rw [cell_blk ((h.above g hb (lt_of_blk hg)).trans hg)]
    exact h1
theorem ApI.head {w wr : World} {lo kb p q : Nat} {S : List Span} {o : Obj} (h : ApI w wr lo kb S p q) (h1 : w.heap[kb]? = some o) : wr.heap[kb]? = some o :=
  (h.above kb (Nat.le_refl _) (lt_of_blk h1)).trans h1
def ApartPost (lo : Nat) (w : World) (e : Ending) (w' : World) : Prop := e = .returned (.bool true) ∧ Below lo w w'
end Go.Proofs.Ytjldcblklbikaaa

/- A book's spans, wherever they stand: has each list its own memory: the walk. And a list more in a book: what of the memory stays. Condition: the lists' spans are apart. -/
namespace Go.Proofs.Ytjldcblklbikaaa
open Go.RowKit
set_option linter.unusedVariables false
set_option linter.unusedSimpArgs false
/-- p leaves are filled, and q rooms -/
structure ApJ (w wr : World) (lo kb : Nat) (S : List Span) (p q : Nat) : Prop where
  above : ∀ (k : Nat) (cs : Array Value) (T : TypeId), T ≠ 5 → w.heap[k]? = some (.cells cs T (0, 0)) → wr.heap[k]? = some (.cells cs T (0, 0))
  low : lo ≤ w.heap.size
  below : Below lo w wr
  span : ∀ x ∈ S, SpanIn lo kb wr x
  ins : ∀ j x, j < p → S[j]? = some x → SpanIs wr x 0 x.len (.int .u8 (sgn j))
  outs : ∀ j x, j < q → S[j]? = some x → SpanIs wr x x.len x.cap (.int .u8 (rsgn j))
theorem ApJ.start {w : World} {lo kb : Nat} {S : List Span} (h : ∀ x ∈ S, SpanIn lo kb w x) (hlo : lo ≤ w.heap.size) : ApJ w w lo kb S 0 0 :=
  ⟨fun _ _ _ _ h => h, hlo, Below.refl _ _, h, fun j x hj => absurd hj (by omega), fun j x hj => absurd hj (by omega)⟩
theorem ApJ.step {w wr w' : World} {lo kb p q : Nat} {S : List Span} (h : ApJ w wr lo kb S p q) (hk : kb ≤ wr.heap.size) (hb : Below wr.heap.size wr w') : ApJ w w' lo kb S p q := by
  have hs := h.below.size
  have hl := h.low
  have key : ∀ x a b v, SpanIs wr x a b v → SpanIs w' x a b v := fun x a b v hx g o e k k1 k2 => by
    have := hx g o e k k1 k2
    exact (hb.cell (p := ⟨g, o + k, none⟩) (lt_of_cell this)).trans this
  exact ⟨fun k cs T h1 h2 => (hb.block k (lt_of_blk (h.above k cs T h1 h2))).trans (h.above k cs T h1 h2), h.low, h.below.trans (hb.mono (by omega)), fun x hx => (h.span x hx).below hb hk, fun j x hj hx => key _ _ _ _ (h.ins j x hj hx), fun j x hj hx => key _ _ _ _ (h.outs j x hj hx)⟩
theorem Painted.aboveT {x : Span} {a b lo hi : Nat} {v : Value} {w w' : World} (h : Painted x a b v w w') (hx : SpanIn lo hi w x) {k T : Nat} {c : Array Value} (hT : T ≠ 5) (hk : w.heap[k]? = some (.cells c T (0, 0))) : w'.heap[k]? = some (.cells c T (0, 0)) := by
  refine (h.other k (lt_of_blk hk) (fun o e => ?_)).trans hk
  rcases hx.at_ with ⟨h1, _⟩ | ⟨g1, o1, cs, h1, h2, h3, h4, h5⟩
  · rw [h1] at e; cases e
  · rw [h1] at e; cases e
    rw [hk] at h4; cases h4
    exact hT rfl
theorem ApJ.fill {w wr w' : World} {lo kb p : Nat} {S : List Span} {x : Span} (h : ApJ w wr lo kb S p 0) (hp : S.Pairwise apart2) (hx : S[p]? = some x)
    (P : Painted x 0 x.len (.int .u8 (sgn p)) wr w') : ApJ w w' lo kb S (p + 1) 0 := by
  have hX := h.span x (List.mem_of_getElem? hx)
  refine ⟨fun k cs T h1 h2 => P.aboveT hX h1 (h.above k cs T h1 h2), h.low, h.below.trans (P.below hX (by have := h.below.size; have := h.low; omega)), fun y hy => P.span (h.span y hy), fun j y hj hy => ?_, fun j x hj => absurd hj (by omega)⟩
  by_cases e : j = p
  · subst e
    rw [hx] at hy; cases hy
    exact P.is hX hX.fit
  · have hY := h.span y (List.mem_of_getElem? hy)
    refine P.keep hX (h.ins j y (by omega) hy) (fun g o o2 h1 h2 => ?_)
    have h3 := apart_of hp hx hy (fun e' => e e'.symm) g o o2 h1 h2
    have f1 := hX.fit
    have f2 := hY.fit
    omega
theorem ApJ.room {w wr w' : World} {lo kb n q : Nat} {S : List Span} {x : Span} (h : ApJ w wr lo kb S n q) (hp : S.Pairwise apart2) (hx : S[q]? = some x)
    (P : Painted x x.len x.cap (.int .u8 (rsgn q)) wr w') : ApJ w w' lo kb S n (q + 1) := by
  have hX := h.span x (List.mem_of_getElem? hx)
  have f1 := hX.fit
  refine ⟨fun k cs T h1 h2 => P.aboveT hX h1 (h.above k cs T h1 h2), h.low, h.below.trans (P.below hX (by have := h.below.size; have := h.low; omega)), fun y hy => P.span (h.span y hy), fun j y hj hy => ?_, fun j y hj hy => ?_⟩
  · have hY := h.span y (List.mem_of_getElem? hy)
    have f2 := hY.fit
    refine P.keep hX (h.ins j y hj hy) (fun g o o2 h1 h2 => ?_)
    by_cases e : j = q
    · subst e
      rw [hx] at hy; cases hy
      rw [h1] at h2; cases h2
      omega
    · have h3 := apart_of hp hx hy (fun e' => e e'.symm) g o o2 h1 h2
      omega
  · by_cases e : j = q
    · subst e
      rw [hx] at hy; cases hy
      exact P.is hX (Nat.le_refl _)
    · have hY := h.span y (List.mem_of_getElem? hy)
      have f2 := hY.fit
      refine P.keep hX (h.outs j y (by omega) hy) (fun g o o2 h1 h2 => ?_)
      have h3 := apart_of hp hx hy (fun e' => e e'.symm) g o o2 h1 h2
      omega
theorem ApJ.leaf {w wr : World} {lo hi kb p q i n c : Nat} {S : List Span} {A : Option Addr} {x : Span} (h : ApJ w wr lo hi S p q) (h2 : w.ownsRow kb 97 1 (.slice A n c) S.length (rowB S)) (hx : S[i]? = some x) :
    ∃ g, A = some ⟨g, 0, none⟩ ∧ wr.cell? ⟨g, i, none⟩ = some (.iface 84 (.agg #[.slice x.adr x.len x.cap, .int .u8 (sgn i), .int .u8 (rsgn i)])) := by
  have hi := (List.getElem?_eq_some_iff.1 hx).1
  rcases h2.2 with ⟨_, h0⟩ | ⟨g, cap, cur, e, hb, hg, hn, hm, hs, ht⟩
  · omega
  · cases e
    refine ⟨g, rfl, ?_⟩
    have h1 := rowB_get hx
    rw [← ht, List.getElem?_take_of_lt (by omega), Array.getElem?_toList] at h1
    rw [cell_blk (h.above g _ 97 (by decide) hg)]
    exact h1
theorem ApJ.head {w wr : World} {lo hi kb p q : Nat} {S : List Span} {c : Array Value} (h : ApJ w wr lo hi S p q) (h1 : w.heap[kb]? = some (.cells c 33 (0, 0))) : wr.heap[kb]? = some (.cells c 33 (0, 0)) :=
  h.above kb _ 33 (by decide) h1
def ApartPost2 (lo : Nat) (w : World) (e : Ending) (w' : World) : Prop := e = .returned (.bool true) ∧ Below lo w w'
set_option maxRecDepth 100000 in
set_option maxHeartbeats 2000000 in
theorem apart23 {kb lo hi : Nat} {S : List Span} (w : World) (h : BookAt w kb S) (hs : ∀ x ∈ S, SpanIn lo hi w x) (hp : S.Pairwise apart2) (hlo : lo ≤ w.heap.size) (hhi : hi ≤ w.heap.size) (hS : S.length ≤ 1000000) :
    Calls Try.prog 23 #[.pointer (some ⟨kb, 0, none⟩)] w (ApartPost2 lo w) := by
  obtain ⟨v, h1, h2⟩ := h
  obtain ⟨q, cq, rfl, hq⟩ := own_slice2 h2
  have c0 := cell_blk h1 0
  simp only [List.getElem?_toArray, List.getElem?_cons_zero] at c0
  have hkb := lt_of_blk h1
  have I0 := ApJ.start (S := S) (lo := lo) (kb := hi) (w := w) hs hlo
  obtain ⟨m, hm⟩ : ∃ m, S.length = m := ⟨_, rfl⟩
  have HM := Lib.hid hm
  rw [hm] at c0 h1 hS hq
  have H1 := Lib.hid h1
  have HHI := Lib.hid hhi
  have H2 := Lib.hid h2
  have HP := Lib.hid hp
  have HI := Lib.hid I0
  clear hm h1 h2 hs hp I0
  go_enter Try.func23, Try.ntmps23
  by_cases h120 : 120 < m
  · go_wp2_with fail
    go_ret
    exact ⟨rfl, Below.refl _ _⟩
  · go_wp2_with fail
    go_loopw [3] (fun i wr => ∃ k : Nat, k ≤ m ∧ i = .int .i64 k ∧ ApJ w wr lo hi S k 0) (fun i _ => m - (intOf i).toNat)
    case atStart => exact ⟨0, Nat.zero_le _, rfl, HI.out⟩
    case round =>
      clear HI c0
      obtain ⟨k, hk, rfl, I⟩ := hrel
      have c0 := cell_blk (I.head H1.out) 0
      simp only [List.getElem?_toArray, List.getElem?_cons_zero] at c0
      by_cases hlt : k < m
      · obtain ⟨x, hx⟩ : ∃ x, S[k]? = some x := ⟨S[k]'(by rw [HM.out]; exact hlt), List.getElem?_eq_getElem _⟩
        obtain ⟨g, rfl, cg⟩ := I.leaf H2.out hx
        have HF := Lib.hid (fill139 (sgn k) (rsgn k) wr (I.span x (List.mem_of_getElem? hx)))
        have HX := Lib.hid hx
        have HI := Lib.hid I
        clear hx I
        go_wp2_with fail
        refine (HF.out).mono ?_
        rintro e w1 ⟨rfl, P⟩
        have HN := Lib.hid (HI.out.fill HP.out HX.out P)
        clear P HF
        go_wp2_with fail
        go_roundw
        case rel => exact ⟨k + 1, by omega, by go_num, HN.out⟩
        case measure => simp [intOf]; omega
      · obtain rfl : k = m := by omega
        have HI := Lib.hid I
        clear I
        go_wp2_with fail
        clear c0
        go_loopw [4] (fun i wr => ∃ j : Nat, j ≤ k ∧ i = .int .i64 j ∧ ApJ w wr lo hi S k j) (fun i _ => k - (intOf i).toNat)
        case atStart => exact ⟨0, Nat.zero_le _, rfl, HI.out⟩
        case round =>
          clear HI
          obtain ⟨j, hj, rfl, I⟩ := hrel
          have c0 := cell_blk (I.head H1.out) 0
          simp only [List.getElem?_toArray, List.getElem?_cons_zero] at c0
          by_cases hlt : j < k
          · obtain ⟨x, hx⟩ : ∃ x, S[j]? = some x := ⟨S[j]'(by rw [HM.out]; exact hlt), List.getElem?_eq_getElem _⟩
            obtain ⟨g, rfl, cg⟩ := I.leaf H2.out hx
            have HF := Lib.hid (room140 (sgn j) (rsgn j) _ (I.span x (List.mem_of_getElem? hx)))
            have HX := Lib.hid hx
            have HI := Lib.hid I
            clear hx I
            go_wp2_with fail
            refine (HF.out).mono ?_
            rintro e w1 ⟨rfl, P⟩
            have HN := Lib.hid (HI.out.room HP.out HX.out P)
            clear P HF
            go_wp2_with fail
            go_roundw
            case rel => exact ⟨j + 1, by omega, by go_num, HN.out⟩
            case measure => simp [intOf]; omega
          · obtain rfl : j = k := by omega
            have HI := Lib.hid I
            clear I
            go_wp2_with fail
            clear c0
            go_loopw [5] (fun i wr => ∃ k : Nat, k ≤ j ∧ i = .int .i64 k ∧ ApJ w wr lo hi S j j) (fun i _ => j - (intOf i).toNat)
            case atStart => exact ⟨0, Nat.zero_le _, rfl, HI.out⟩
            case round =>
              clear HI
              obtain ⟨k, hk, rfl, I⟩ := hrel
              have c0 := cell_blk (I.head H1.out) 0
              simp only [List.getElem?_toArray, List.getElem?_cons_zero] at c0
              by_cases hlt : k < j
              · obtain ⟨x, hx⟩ : ∃ x, S[k]? = some x := ⟨S[k]'(by rw [HM.out]; exact hlt), List.getElem?_eq_getElem _⟩
                obtain ⟨g, rfl, cg⟩ := I.leaf H2.out hx
                have HF := Lib.hid (kept141 (sgn k) (rsgn k) _ (I.span x (List.mem_of_getElem? hx)) (I.ins k x hlt hx) (I.outs k x hlt hx))
                have HI := Lib.hid I
                clear hx I
                go_wp2_with fail
                refine (HF.out).mono ?_
                rintro e w1 ⟨rfl, hB⟩
                have HN := Lib.hid (HI.out.step (by have := HI.out.below.size; have := HHI.out; omega) hB)
                clear hB HF
                go_wp2_with fail
                go_roundw
                case rel => exact ⟨k + 1, by omega, by go_num, HN.out⟩
                case measure => simp [intOf]; omega
              · have HI := Lib.hid I.below
                clear I
                go_wp2_with fail
                go_ret
                exact ⟨rfl, HI.out⟩
theorem own_typ {w : World} {B e s n : Nat} {v : Value} {xs : List Value} (h : w.ownsRow B e s v n xs) {i : Nat} (hi : v.ownBlock = some i) : ∃ cur, w.heap[i]? = some (.cells cur e (0, 0)) := by
  rcases h.2 with ⟨rfl, _⟩ | ⟨g, cap, cur, rfl, hb, hg, _⟩
  · cases hi
  · cases hi; exact ⟨cur, hg⟩
/-- the book's blocks alone are written: by their types -/
structure BK (w w' : World) : Prop where
  os : w'.os = w.os
  tape : w'.tape = w.tape
  output : w'.output = w.output
  size : w.heap.size ≤ w'.heap.size
  block : ∀ (k : Nat) (cs : Array Value) (T : TypeId), T ≠ 33 → T ≠ 97 → w.heap[k]? = some (.cells cs T (0, 0)) → w'.heap[k]? = some (.cells cs T (0, 0))
def BookPostK (kb : Nat) (S : List Span) (w : World) (e : Ending) (w' : World) : Prop := e = .returned (.tuple #[]) ∧ BookAt w' kb S ∧ BK w w' ∧ Below kb w w'
set_option maxRecDepth 100000 in
set_option maxHeartbeats 1000000 in
theorem bytes14k {kb n c : Nat} {A : Option Addr} {S : List Span} (w : World) (h : BookAt w kb S) (hS : S.length ≤ 1000000) :
    Calls Try.prog 14 #[.pointer (some ⟨kb, 0, none⟩), .slice A n c] w (BookPostK kb (S ++ [⟨A, n, c⟩]) w) := by
  obtain ⟨i87, hi, hz0, hz1, hz2⟩ := info_parts info87
  obtain ⟨v, h1, h2⟩ := h
  obtain ⟨q, cq, rfl, hq⟩ := own_slice2 h2
  have HNX := Lib.hid (next54 w h1 (by omega))
  have c0 := cell_blk h1 0
  simp only [List.getElem?_toArray, List.getElem?_cons_zero] at c0
  obtain ⟨m, hm⟩ : ∃ m, S.length = m := ⟨_, rfl⟩
  have HM := Lib.hid hm
  rw [hm] at HNX c0 h1 h2 hS hq
  have H1 := Lib.hid h1
  have H2 := Lib.hid h2
  have hkb := lt_of_blk h1
  clear hm h1 h2
  go_enter Try.func14, Try.ntmps14
  go_wp2_with fail
  refine (HNX.out).mono ?_
  rintro e w1 ⟨rfl, rfl⟩
  go_wp2_with (at_builtin; refine wpList_append_own _ rfl _ _ 31 rfl kb 97 i87 .nilIface 1 16 Try.underlying31 hi hz0 hz1 hz2 rfl (by decide) _ _ _ rfl (H2.out.alloc _) ⟨w.heap.size, 0, none⟩ 1 1 [leafV m ⟨A, n, c⟩] rfl rfl ?c2 ?c1 ?c3 ?c4 ?c5 ?_)
  case c2 =>
    intro j u hj
    rw [Addr.add_mid, Nat.zero_add]
    have c := cell_blk (heap_alloc_new w (.cells #[leafV m ⟨A, n, c⟩] 97)) j
    exact c.trans (by simpa using hj)
  case c1 => intro u hu; rw [List.mem_singleton] at hu; subst hu; rfl
  case c3 => unfold maxLen; omega
  case c4 => omega
  case c5 => simp; omega
  intro v' w7 ho hg _
  have hal : Below w.heap.size w (w.alloc (.cells #[leafV m ⟨A, n, c⟩] 97)) := (Below.refl _ _).alloc (Nat.le_refl _) _
  have hb1 : w7.heap[kb]? = some (.cells #[.slice q m cq] 33 (0, 0)) := by
    refine (hg.block kb (by simp; omega) (fun e => ?_)).trans ((hal.block kb hkb).trans H1.out)
    rcases own_blk H2.out H1.out (by decide) with h | h
    · rw [h] at e; cases e
    · exact h e.symm
  have d0 := cell_blk hb1 0
  simp only [List.getElem?_toArray, List.getElem?_cons_zero] at d0
  have f0 := frozen_blk hb1 0
  have hK7 : BK w w7 := ⟨hg.os.trans hal.os, hg.tape.trans hal.tape, hg.output.trans hal.output, Nat.le_trans hal.size hg.size, fun k cs T n1 n2 hk => (hg.block k (by have := lt_of_blk hk; simp; omega) (fun e => by
    obtain ⟨cur, hc⟩ := own_typ H2.out e.symm
    rw [hk] at hc; cases hc
    exact n2 rfl)).trans ((hal.block k (lt_of_blk hk)).trans hk)⟩
  have HK7 := Lib.hid hK7
  have hB7 : Below kb w w7 := Below.grown' (hal.mono (by omega)) hg (by simp; omega) (fun k hk => (H2.out.lt k hk).1)
  obtain ⟨q2, cq2, rfl, -⟩ := own_slice2 ho
  have t := Turned.setCell hb1 0 (.slice q2 (m + 1) cq2)
  have HT := Lib.hid t
  have HO := Lib.hid ho
  have HB7 := Lib.hid hB7
  have HB1 := Lib.hid hb1
  clear hg ho hal t hB7 hb1 hK7
  go_wp2_with fail
  go_end0
  have hm := HM.out
  refine ⟨rfl, ⟨_, HT.out.get (lt_of_blk HB1.out), ?_⟩, ⟨HT.out.os.trans HK7.out.os, HT.out.tape.trans HK7.out.tape, HT.out.output.trans HK7.out.output, by rw [HT.out.size]; exact HK7.out.size, fun k cs T n1 n2 hk => (HT.out.other (fun e => by rw [e, H1.out] at hk; cases hk; exact n1 rfl)).trans (HK7.out.block k cs T n1 n2 hk)⟩, HB7.out.trans (HT.out.below (Nat.le_refl _))⟩
  have ho := HO.out.kept HT.out.grown (own_blk HO.out HB1.out (by decide))
  rw [rowB_snoc, List.length_append, List.length_singleton, hm]
  exact ho
end Go.Proofs.Ytjldcblklbikaaa
