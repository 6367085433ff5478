/- Options in memory of one's own: how they read. No condition. -/
import Derived.Test.YtfolamkjlgpgmaaGreatDoorGet
import Derived.Test.YtfolamkjlgpgmaaGreatDoorGetPQ
import Derived.Test.YtfolamkjlgpgmaaGreatDoorTwins8
namespace Go.Proofs.YtfolamkjlgpgmaaGreatDoor
open Go.RowKit
set_option linter.unusedVariables false
set_option linter.unusedSimpArgs false
/-- options as values -/
def rowV (M : List Opt) : List Value := M.flatMap fun x => [.int .u8 (x.kind : Int), .slice x.adr x.data.length x.cap]
theorem rowV_length (M : List Opt) : (rowV M).length = M.length * 2 := by
  induction M with
  | nil => rfl
  | cons x M ih => simp only [rowV, List.flatMap_cons, List.length_append, List.length_cons, List.length_nil] at ih ⊢; omega
theorem rowV_snoc (M : List Opt) (x : Opt) : rowV (M ++ [x]) = rowV M ++ [.int .u8 (x.kind : Int), .slice x.adr x.data.length x.cap] := by simp [rowV]
theorem rowV_get {M : List Opt} {i : Nat} {x : Opt} (h : M[i]? = some x) : (rowV M)[i * 2]? = some (.int .u8 (x.kind : Int)) ∧ (rowV M)[i * 2 + 1]? = some (.slice x.adr x.data.length x.cap) := by
  induction M generalizing i with
  | nil => simp at h
  | cons y M ih =>
    match i, h with
    | 0, h => simp at h; subst h; exact ⟨rfl, rfl⟩
    | i + 1, h =>
      have h2 := ih (i := i) (by simpa using h)
      have e : rowV (y :: M) = [.int .u8 (y.kind : Int), .slice y.adr y.data.length y.cap] ++ rowV M := by simp [rowV]
      rw [e, List.getElem?_append_right (by simp; omega), List.getElem?_append_right (by simp; omega)]
      simp only [List.length_cons, List.length_nil]
      rw [show (i + 1) * 2 - (0 + 1 + 1) = i * 2 by omega, show (i + 1) * 2 + 1 - (0 + 1 + 1) = i * 2 + 1 by omega]
      exact h2
/-- their kinds and data alone -/
def kdO (M : List Opt) : List (Nat × List Nat) := M.map fun x => (x.kind, x.data)
def wantO (l : List Nat) (L : List (Nat × Nat × Nat)) : List (Nat × List Nat) := L.map fun x => (x.1, (l.drop x.2.1).take x.2.2)
/-- those of a block -/
def optL (g : Nat) (l : List Nat) (L : List (Nat × Nat × Nat)) : List Opt := L.map fun x => ⟨x.1, some ⟨g, x.2.1, none⟩, x.2.2, (l.drop x.2.1).take x.2.2⟩
theorem optL_kd (g : Nat) (l : List Nat) (L : List (Nat × Nat × Nat)) : kdO (optL g l L) = wantO l L := by simp [kdO, optL, wantO]
theorem rowO_eq {g : Nat} {l : List Nat} {L : List (Nat × Nat × Nat)} (h : ∀ x ∈ L, x.2.1 + x.2.2 ≤ l.length) : rowO g L = rowV (optL g l L) := by
  induction L with
  | nil => rfl
  | cons y L ih =>
    have h1 := ih (fun x hx => h x (List.mem_cons_of_mem _ hx))
    have h2 := h y List.mem_cons_self
    simp only [rowO, rowV, optL, List.flatMap_cons, List.map_cons] at h1 ⊢
    rw [h1, show ((l.drop y.2.1).take y.2.2).length = y.2.2 by rw [List.length_take, List.length_drop]; omega]
/-- a slice at A reads as these options: less is asked of their room -/
structure OptsRd (w : World) (B : Nat) (A : Option Addr) (L : List Opt) : Prop where
  at_ : L ≠ [] → ∃ b o, A = some ⟨b, o, none⟩ ∧ b < B ∧ ∀ i x, L[i]? = some x → w.cell? ⟨b, o + i * 2, none⟩ = some (.int .u8 (x.kind : Int)) ∧ w.cell? ⟨b, o + i * 2 + 1, none⟩ = some (.slice x.adr x.data.length x.cap)
  each : ∀ x ∈ L, Bs w B x.adr x.cap x.data
  many : L.length ≤ 140737488351232
theorem OptsAt.rd {w : World} {B : Nat} {A : Option Addr} {L : List Opt} (h : OptsAt w B A L) : OptsRd w B A L := ⟨h.at_, fun x hx => (h.each x hx).1, h.many⟩
theorem OptsRd.below {w w' : World} {B : Nat} {A : Option Addr} {L : List Opt} (h : OptsRd w B A L) (hb : Below B w w') : OptsRd w' B A L := by
  refine ⟨fun hl => ?_, fun x hx => (h.each x hx).below hb, h.many⟩
  obtain ⟨b, o, e, hlt, hc⟩ := h.at_ hl
  refine ⟨b, o, e, hlt, fun i x hx => ?_⟩
  obtain ⟨h1, h2⟩ := hc i x hx
  exact ⟨(hb.cell (p := ⟨b, o + i * 2, none⟩) hlt).trans h1, (hb.cell (p := ⟨b, o + i * 2 + 1, none⟩) hlt).trans h2⟩
theorem OptsRd.mono {w : World} {B C : Nat} {A : Option Addr} {L : List Opt} (h : OptsRd w B A L) (hB : B ≤ C) : OptsRd w C A L := by
  refine ⟨fun hl => ?_, fun x hx => (h.each x hx).mono hB, h.many⟩
  obtain ⟨b, o, e, hlt, hc⟩ := h.at_ hl
  exact ⟨b, o, e, by omega, hc⟩
/-- a row of one's own reads as options -/
theorem opts_own {w : World} {base c : Nat} {A : Option Addr} {M : List Opt} (h : w.ownsRow base 24 2 (.slice A M.length c) M.length (rowV M))
    (he : ∀ x ∈ M, Bs w w.heap.size x.adr x.cap x.data) (hm : M.length ≤ 5000) : OptsRd w w.heap.size A M := by
  refine ⟨fun hl => ?_, he, by omega⟩
  rcases h.2 with ⟨e1, e2⟩ | ⟨g, cap, cur, e1, hb, hg, hn, hmx, hs, ht⟩
  · exact absurd (List.eq_nil_of_length_eq_zero e2) hl
  · cases e1
    refine ⟨g, 0, rfl, lt_of_blk hg, fun i x hx => ?_⟩
    obtain ⟨r1, r2⟩ := rowV_get hx
    have hi := (List.getElem?_eq_some_iff.1 hx).1
    rw [← ht, List.getElem?_take_of_lt (by omega)] at r1 r2
    rw [Nat.zero_add, cell_blk hg, cell_blk hg]
    simp only [Array.getElem?_toList] at r1 r2
    exact ⟨r1, r2⟩
theorem own_ne {w : World} {B C n m s s2 e e2 : Nat} {v u : Value} {xs ys : List Value} (h : w.ownsRow B e s v n xs) (k : w.ownsRow C e2 s2 u m ys) (hne : e ≠ e2) : v.ownBlock = none ∨ v.ownBlock ≠ u.ownBlock := by
  rcases h.2 with ⟨rfl, _⟩ | ⟨g, cap, cur, rfl, hb, hg, _⟩
  · exact .inl rfl
  · right
    rcases k.2 with ⟨rfl, _⟩ | ⟨g2, cap2, cur2, rfl, hb2, hg2, _⟩
    · intro x; cases x
    · intro x
      simp only [Value.ownBlock, Option.some.injEq] at x
      subst x
      rw [hg] at hg2
      cases hg2
      exact hne rfl
/-- options so far, all in memory of their own -/
structure RefB (w wr : World) (v : Value) (l : List Nat) (L : List (Nat × Nat × Nat)) (M : List Opt) : Prop where
  own : wr.ownsRow w.heap.size 24 2 v M.length (rowV M)
  each : ∀ x ∈ M, wr.ownsRow w.heap.size 5 1 (.slice x.adr x.data.length x.cap) x.data.length (row8 x.data)
  kds : kdO M = wantO l L
  below : Below w.heap.size w wr
  many : M.length ≤ 64
theorem RefB.start (w : World) (l : List Nat) : RefB w w (.slice none 0 0) l [] [] := ⟨World.ownsRow_nil _ _ _ _, by simp, rfl, Below.refl _ _, by simp⟩
theorem RefB.len {w wr : World} {v : Value} {l : List Nat} {L : List (Nat × Nat × Nat)} {M : List Opt} (h : RefB w wr v l L M) : M.length = L.length := by
  have := congrArg List.length h.kds
  simpa [kdO, wantO] using this
theorem RefB.step {w wr w' : World} {v : Value} {l : List Nat} {L : List (Nat × Nat × Nat)} {M : List Opt} (h : RefB w wr v l L M) (hb : Below wr.heap.size wr w') : RefB w w' v l L M :=
  ⟨own_below h.own hb, fun x hx => own_below (h.each x hx) hb, h.kds, h.below.trans (hb.mono h.below.size), h.many⟩
theorem RefB.next {w wr w' : World} {v v' : Value} {l : List Nat} {L : List (Nat × Nat × Nat)} {M : List Opt} {x : Opt} {y : Nat × Nat × Nat} (h : RefB w wr v l L M) (hg : wr.grownBy w' v.ownBlock)
    (hown : w'.ownsRow w.heap.size 24 2 v' (M ++ [x]).length (rowV (M ++ [x]))) (hx : wr.ownsRow w.heap.size 5 1 (.slice x.adr x.data.length x.cap) x.data.length (row8 x.data)) (hxy : (x.kind, x.data) = (y.1, (l.drop y.2.1).take y.2.2))
    (hm : M.length ≠ 64) : RefB w w' v' l (L ++ [y]) (M ++ [x]) := by
  refine ⟨hown, fun z hz => ?_, ?_, Below.grown' h.below hg h.below.size (fun k hk => (h.own.lt k hk).1), by have := h.many; rw [List.length_append, List.length_singleton]; omega⟩
  · have ho : wr.ownsRow w.heap.size 5 1 (.slice z.adr z.data.length z.cap) z.data.length (row8 z.data) := by
      rcases List.mem_append.1 hz with hz | hz
      · exact h.each z hz
      · rw [List.mem_singleton] at hz; subst hz; exact hx
    exact ho.kept hg (own_ne ho h.own (by decide))
  · have := h.kds
    unfold kdO wantO at this ⊢
    rw [List.map_append, List.map_append, this]
    simp [hxy]
/-- what bytes read as options give, in memory of one's own -/
def RefPost (l : List Nat) (w : World) (e : Ending) (w' : World) : Prop :=
  Below w.heap.size w w' ∧ ((getS l = none ∧ e = .returned (.tuple #[.slice none 0 0, .int .i64 4])) ∨
    ∃ L M A c, getS l = some L ∧ e = .returned (.tuple #[.slice A M.length c, .int .i64 0]) ∧ RefB w w' (.slice A M.length c) l L M)
end Go.Proofs.YtfolamkjlgpgmaaGreatDoor
