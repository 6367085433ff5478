/- What both find: the same. No program in sight but its endings. -/
import Derived.Test.YtfolamkjlgpgmaaDoorFinds
import Derived.Test.YtfolamkjlgpgmaaDoorLeftO
import Derived.Test.YtfolamkjlgpgmaaDoorPutR
import Derived.Test.YtfolamkjlgpgmaaDoorBooks
namespace Go.Proofs.YtfolamkjlgpgmaaDoor
open Go.RowKit
set_option linter.unusedVariables false
set_option linter.unusedSimpArgs false
/-- what is found: its kind, its data, is it there -/
def FK (L : List Opt) (kd : Nat) (a : Nat) (d : List Nat) (b : Bool) : Prop := (b = false ∧ a = 0 ∧ d = [] ∧ ∀ x ∈ L, x.kind ≠ kd) ∨
  (b = true ∧ a = kd ∧ ∃ (k : Nat) (x : Opt), L[k]? = some x ∧ x.kind = kd ∧ (∀ (j : Nat) (y : Opt), j < k → L[j]? = some y → y.kind ≠ kd) ∧ d = x.data)
theorem foundU {L : List Opt} {kd : Nat} {w w' : World} {e : Ending} (h : FindPost L kd w e w') : ∃ (a : Nat) (d : List Nat) (A : Option Addr) (b : Bool) (cap : Nat), e = .returned (.tuple #[.agg #[.int .u8 (a : Int), .slice A d.length d.length], .bool b]) ∧ Below w.heap.size w w' ∧ w'.ownsRow w.heap.size 5 1 (.slice A d.length cap) d.length (row8 d) ∧ FK L kd a d b := by
  obtain ⟨h1, r, h2, h3⟩ := h
  cases r with
  | none => exact ⟨0, [], none, false, 0, h3, h1, World.ownsRow_nil _ _ _ _, .inl ⟨rfl, rfl, rfl, h2⟩⟩
  | some k =>
    obtain ⟨x, A, cap, h4, h5, h6⟩ := h3
    obtain ⟨y, h7, h8, h9⟩ := h2
    rw [h4] at h7; cases h7
    exact ⟨kd, x.data, A, true, cap, h5, h1, h6, .inr ⟨rfl, rfl, k, x, h4, h8, h9, rfl⟩⟩
theorem selfU {L : List Opt} {kd B : Nat} {w w' : World} {e : Ending} {A0 : Option Addr} (h : SelfPost L kd w e w') (hO : OptsRd w' B A0 L) : ∃ (a : Nat) (d : List Nat) (A : Option Addr) (b : Bool) (c : Nat), e = .returned (.tuple #[.agg #[.int .u8 (a : Int), .slice A d.length c], .bool b]) ∧ Below w.heap.size w w' ∧ Bs w' B A c d ∧ FK L kd a d b := by
  obtain ⟨h1, r, h2, h3⟩ := h
  cases r with
  | none => exact ⟨0, [], none, false, 0, h3, h1, ⟨RdL.nil, Nat.le_refl _, fun _ => ⟨rfl, rfl⟩, by unfold maxLen; omega⟩, .inl ⟨rfl, rfl, rfl, h2⟩⟩
  | some k =>
    obtain ⟨x, h4, h5⟩ := h3
    obtain ⟨y, h7, h8, h9⟩ := h2
    rw [h4] at h7; cases h7
    exact ⟨x.kind, x.data, x.adr, true, x.cap, h5, h1, hO.each x (List.mem_of_getElem? h4), .inr ⟨rfl, h8, k, x, h4, h8, h9, rfl⟩⟩
theorem FK.same {L T : List Opt} {kd a a2 : Nat} {d d2 : List Nat} {b b2 : Bool} (he : kdO T = kdO L) (h : FK T kd a d b) (k : FK L kd a2 d2 b2) : a2 = a ∧ d2 = d ∧ b2 = b := by
  rcases h with ⟨rfl, rfl, rfl, h1⟩ | ⟨rfl, rfl, i, x, h1, h2, h3, rfl⟩ <;> rcases k with ⟨rfl, rfl, rfl, k1⟩ | ⟨rfl, rfl, j, y, k1, k2, k3, rfl⟩
  · exact ⟨rfl, rfl, rfl⟩
  · obtain ⟨x, hx, hk, _⟩ := kdO_at he.symm k1
    exact absurd (hk.trans k2) (h1 x (List.mem_of_getElem? hx))
  · obtain ⟨y, hy, hk, _⟩ := kdO_at he h1
    exact absurd (hk.trans h2) (k1 y (List.mem_of_getElem? hy))
  · obtain ⟨y2, hy, hk, hd⟩ := kdO_at he h1
    have e : i = j := by
      rcases Nat.lt_trichotomy i j with h | h | h
      · exact absurd (hk.trans h2) (k3 i y2 h hy)
      · exact h
      · obtain ⟨x2, hx2, hk2, _⟩ := kdO_at he.symm k1
        exact absurd (hk2.trans k2) (h3 j x2 h hx2)
    subst e
    rw [k1] at hy; cases hy
    exact ⟨rfl, hd, rfl⟩
theorem kd_lists {L T : List Opt} (he : kdO T = kdO L) : putB T = putB L ∧ totD T = totD L ∧ T.length = L.length := by
  have h1 : ∀ M : List Opt, putB M = (kdO M).flatMap fun x => optB x.1 x.2 := fun M => by simp [putB, kdO, List.flatMap_map]
  have h2 : ∀ M : List Opt, totD M = ((kdO M).map fun x => x.2.length).sum := fun M => by simp [totD, kdO, Function.comp_def]
  have h3 : ∀ M : List Opt, M.length = (kdO M).length := fun M => by simp [kdO]
  rw [h1, h1, h2, h2, h3 T, h3 L, he]
  exact ⟨rfl, rfl, rfl⟩
/-- the twin's options, wholly -/
theorem TwO.opts {w W : World} {gt : Nat} {L T : List Opt} (h : TwO w W gt L T) (hl : L.length ≤ 5000) (hd : ∀ x ∈ L, x.data.length ≤ 5000 ∧ x.kind < 256 ∧ ∀ y ∈ x.data, y < 256) : OptsAt W W.heap.size (some ⟨gt, 0, none⟩) T := by
  have hr := h.rd hl (fun x hx => (hd x hx).1)
  refine ⟨hr.at_, fun x hx => ⟨hr.each x hx, ?_⟩, hr.many⟩
  obtain ⟨j, hj, rfl⟩ := List.getElem_of_mem hx
  obtain ⟨y, g, h1, h2, h3, h4, -⟩ := h.at_ (List.getElem?_eq_getElem hj)
  obtain ⟨d1, d2, d3⟩ := hd y (List.mem_of_getElem? h1)
  rw [h2, h4, h3]
  exact ⟨d2, d3, by omega⟩
/-- a span of bytes of one's own -/
theorem own_span2 {w : World} {base hi n c k : Nat} {A : Option Addr} {l : List Nat} (h : w.ownsRow base 5 1 (.slice A n k) n (row8 l)) (hn : n ≤ c) (hc : c ≤ k) (hhi : w.heap.size ≤ hi) : SpanIn base hi w ⟨A, n, c⟩ := by
  rcases h.2 with ⟨e, h0⟩ | ⟨g, cap, cur, e, hb, hg, hn2, hm, hs, ht⟩
  · cases e
    exact ⟨hn, by show c ≤ 9223372036854775807; omega, .inl ⟨rfl, by show c = 0; omega⟩⟩
  · cases e
    exact ⟨hn, by show c ≤ 9223372036854775807; unfold maxLen at hm; omega, .inr ⟨g, 0, cur, rfl, hb, by have := lt_of_blk hg; omega, hg, by show 0 + c ≤ _; omega⟩⟩
theorem own_span {w : World} {base hi n c : Nat} {A : Option Addr} {l : List Nat} (h : w.ownsRow base 5 1 (.slice A n c) n (row8 l)) (hn : n ≤ 1000000000) (hhi : w.heap.size ≤ hi) : SpanIn base hi w ⟨A, n, n⟩ := by
  refine ⟨Nat.le_refl _, by show n ≤ 9223372036854775807; omega, ?_⟩
  rcases h.2 with ⟨e, h0⟩ | ⟨g, cap, cur, e, hb, hg, hn2, hm, hs, ht⟩
  · cases e; exact .inl ⟨rfl, h0⟩
  · cases e
    exact .inr ⟨g, 0, cur, rfl, hb, by have := lt_of_blk hg; omega, hg, by show 0 + n ≤ _; omega⟩
theorem SpanIn.low {lo lo2 hi : Nat} {w : World} {x : Span} (h : SpanIn lo hi w x) (hl : lo2 ≤ lo) : SpanIn lo2 hi w x := by
  refine ⟨h.fit, h.max, ?_⟩
  rcases h.at_ with h1 | ⟨g, o, cs, h1, h2, h3⟩
  · exact .inl h1
  · exact .inr ⟨g, o, cs, h1, by omega, h3⟩
theorem apart_hi {lo hi lo2 hi2 : Nat} {w w2 : World} {x y : Span} (h : SpanIn lo hi w x) (k : SpanIn lo2 hi2 w2 y) (hh : hi ≤ lo2) : apart2 x y := by
  intro g o o2 h1 h2
  rcases h.at_ with ⟨e, _⟩ | ⟨g1, o1, cs, e, h4, h5, _⟩
  · rw [e] at h1; cases h1
  · rcases k.at_ with ⟨e2, _⟩ | ⟨g2, o3, cs2, e2, k4, k5, _⟩
    · rw [e2] at h2; cases h2
    · rw [e] at h1; rw [e2] at h2
      cases h1; cases h2
      omega
/-- the twin's spans -/
theorem TwO.spans {w W : World} {gt hi : Nat} {L T : List Opt} (h : TwO w W gt L T) (hd : ∀ x ∈ L, x.data.length ≤ 5000) (hhi : W.heap.size ≤ hi) : (∀ x ∈ T.map spanOf, SpanIn gt hi W x) ∧ (T.map spanOf).Pairwise apart2 := by
  have key : ∀ x ∈ T, ∃ g, x.adr = some ⟨g, 0, none⟩ ∧ SpanIn gt hi W (spanOf x) := fun x hx => by
    obtain ⟨j, hj, rfl⟩ := List.getElem_of_mem hx
    obtain ⟨y, g, h1, h2, h3, h4, h5, h6, h7⟩ := h.at_ (List.getElem?_eq_getElem hj)
    refine ⟨g, h5, ?_⟩
    have := (twin_span h7 (by rw [h3]; exact hd y (List.mem_of_getElem? h1)) hhi).low (lo2 := gt) (by omega)
    unfold spanOf
    rw [h5, h4]
    exact this
  refine ⟨fun x hx => ?_, ?_⟩
  · obtain ⟨y, hy, rfl⟩ := List.mem_map.1 hx
    exact (key y hy).choose_spec.2
  · rw [List.pairwise_map]
    refine (List.pairwise_iff_forall_sublist.2 fun {x y} hs => ?_)
    have hxy := (List.pairwise_iff_forall_sublist.1 h.apart) hs
    obtain ⟨g, hg, _⟩ := key x (hs.subset (by simp))
    obtain ⟨g2, hg2, _⟩ := key y (hs.subset (by simp))
    intro q o o2 e1 e2
    have e1 : x.adr = some ⟨q, o, none⟩ := e1
    have e2 : y.adr = some ⟨q, o2, none⟩ := e2
    rcases hxy with hxy | hxy
    · rw [hxy] at e1; cases e1
    · rw [hg] at e1; rw [hg2] at e2
      cases e1; cases e2
      exact absurd (hg.trans hg2.symm) hxy
end Go.Proofs.YtfolamkjlgpgmaaDoor
