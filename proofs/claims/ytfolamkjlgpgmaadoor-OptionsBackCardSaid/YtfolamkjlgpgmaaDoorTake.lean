/- A cutter of bytes: what it takes. No condition but that the bytes fit a machine. -/
import Derived.Test.YtfolamkjlgpgmaaDoorCut
namespace Go.Proofs.YtfolamkjlgpgmaaDoor
open Go.RowKit
set_option linter.unusedVariables false
set_option linter.unusedSimpArgs false
/-- a cutter in block p, at a place of the bytes of block g -/
structure CutAt (w : World) (p g c pos : Nat) (bs : List Nat) : Prop where
  le : pos ≤ bs.length
  cap : bs.length ≤ c
  max : bs.length ≤ 1000000000
  at_ : ∃ A, w.heap[p]? = some (.cells #[.slice A (bs.length - pos) (c - pos), .bool true] 112 (0, 0)) ∧ (pos < bs.length → A = some ⟨g, pos, none⟩)
  rd : ∀ k x : Nat, bs[k]? = some x → w.cell? ⟨g, k, none⟩ = some (.int .u8 (x : Int))
  ne : bs ≠ [] → g ≠ p
/-- one that is spoilt -/
def CutBad (w : World) (p : Nat) : Prop := w.heap[p]? = some (.cells #[.slice none 0 0, .bool false] 112 (0, 0))
theorem CutAt.step {w w' : World} {p g c pos : Nat} {bs : List Nat} (h : CutAt w p g c pos bs) (hb : Below w.heap.size w w') : CutAt w' p g c pos bs := by
  obtain ⟨A, h1, h2⟩ := h.at_
  exact ⟨h.le, h.cap, h.max, ⟨A, (hb.block p (lt_of_blk h1)).trans h1, h2⟩, fun k x hx => (hb.cell (p := ⟨g, k, none⟩) (lt_of_cell (h.rd k x hx))).trans (h.rd k x hx), h.ne⟩
theorem CutAt.turn {w w' : World} {p g c pos q : Nat} {bs : List Nat} (h : CutAt w p g c pos bs) {A : Option Addr} (hq : q ≤ bs.length) (hA : q < bs.length → A = some ⟨g, q, none⟩) (ht : Turned p (.cells #[.slice A (bs.length - q) (c - q), .bool true] 112 (0, 0)) w w') : CutAt w' p g c q bs := by
  obtain ⟨A0, h1, h2⟩ := h.at_
  refine ⟨hq, h.cap, h.max, ⟨A, ht.get (lt_of_blk h1), hA⟩, fun k x hx => ?_, h.ne⟩
  have hne : g ≠ p := h.ne (by rintro rfl; simp at hx)
  have := ht.other (k := g) hne
  rw [← h.rd k x hx]
  simp only [World.cell?, this]
set_option maxRecDepth 100000 in
set_option maxHeartbeats 1000000 in
theorem take78_ok {p g c pos : Nat} {bs : List Nat} (k : Nat) (w : World) (h : CutAt w p g c pos bs) (hk : 0 < k) (hk2 : pos + k ≤ bs.length) :
    Calls Tryd.prog 78 #[.pointer (some ⟨p, 0, none⟩), .int .i64 (k : Int)] w fun e w' => e = .returned (.slice (some ⟨g, pos, none⟩) k k) ∧ CutAt w' p g c (pos + k) bs ∧ ∃ o, Turned p o w w' := by
  obtain ⟨A, hp, hA⟩ := h.at_
  obtain rfl := hA (by omega)
  have hm := h.max
  have hc := h.cap
  obtain ⟨n, hn⟩ : ∃ n, bs.length - pos = n := ⟨_, rfl⟩
  obtain ⟨m, hm'⟩ : ∃ m, c - pos = m := ⟨_, rfl⟩
  rw [hn, hm'] at hp
  have hkn : k ≤ n := by omega
  have hkm : k ≤ m := by omega
  have hnm : n ≤ m := by omega
  have c0 := cell_blk hp 0
  have c1 := cell_blk hp 1
  have f0 := frozen_blk hp 0
  have t1 : ¬ ((n : Int) < k) := by omega
  have t2 : ¬ ((k : Int) < 0) := by omega
  have en : bs.length - (pos + k) = n - k := by omega
  have em : c - (pos + k) = m - k := by omega
  have HT := fun A : Option Addr => Lib.hid (Turned.setCell hp 0 (.slice A (n - k) (m - k)))
  have HTn : ∀ A : Option Addr, (pos + k < bs.length → A = some ⟨g, pos + k, none⟩) → Hid (CutAt (w.setCell ⟨p, 0, none⟩ (.slice A (n - k) (m - k))) p g c (pos + k) bs) := fun A hA => Lib.hid (h.turn (by omega) hA (by rw [en, em]; exact Turned.setCell hp 0 (.slice A (n - k) (m - k))))
  by_cases hcap : k = m
  · have HX := HTn (some ⟨g, pos, none⟩) (fun h => by omega)
    have HY := HT (some ⟨g, pos, none⟩)
    have e1 : n - k = 0 := by omega
    have e2 : m - k = 0 := by omega
    have e3 : n = k := by omega
    rw [e1, e2] at HX HY
    clear HT HTn h hA hc hm hm' hn en em e1 e2
    subst e3
    subst hcap
    go_enter Tryd.func78, Tryd.ntmps78
    go_wp2_with fail
    go_ret
    exact ⟨rfl, HX.out, _, HY.out⟩
  · have HX := HTn (some ⟨g, pos + k, none⟩) (fun h => rfl)
    have HY := HT (some ⟨g, pos + k, none⟩)
    clear HT HTn h hA hc hm hm' hn en em
    have hcap2 : k < m := by omega
    go_enter Tryd.func78, Tryd.ntmps78
    go_wp2_with fail
    go_ret
    exact ⟨rfl, HX.out, _, HY.out⟩
set_option maxRecDepth 100000 in
set_option maxHeartbeats 1000000 in
theorem take78_bad {p : Nat} {A : Option Addr} {n c : Nat} {fr : Bool} (k : Int) (w : World) (h : w.heap[p]? = some (.cells #[.slice A n c, .bool fr] 112 (0, 0))) (hk : k < 0 ∨ (n : Int) < k ∨ fr = false) :
    Calls Tryd.prog 78 #[.pointer (some ⟨p, 0, none⟩), .int .i64 k] w fun e w' => e = .returned (.slice none 0 0) ∧ CutBad w' p ∧ ∃ o, Turned p o w w' := by
  have c0 := cell_blk h 0
  have c1 := cell_blk h 1
  have f0 := frozen_blk h 0
  have f1 := frozen_blk h 1
  have t := Turned.setCell h 0 (.slice none 0 0)
  have t2 := t.trans (Turned.setCell (t.get (lt_of_blk h)) 1 (.bool false))
  have HT := Lib.hid t2
  have HB : Hid (CutBad ((w.setCell ⟨p, 0, none⟩ (.slice none 0 0)).setCell ⟨p, 1, none⟩ (.bool false)) p) := Lib.hid (t2.get (lt_of_blk h))
  clear t t2
  by_cases h1 : k < 0
  · clear hk h
    go_enter Tryd.func78, Tryd.ntmps78
    go_wp2_with fail
    go_ret
    exact ⟨rfl, HB.out, _, HT.out⟩
  · by_cases h2 : (n : Int) < k
    · clear hk h
      go_enter Tryd.func78, Tryd.ntmps78
      go_wp2_with fail
      go_ret
      exact ⟨rfl, HB.out, _, HT.out⟩
    · obtain rfl : fr = false := by rcases hk with hk | hk | hk; exact absurd hk h1; exact absurd hk h2; exact hk
      clear hk h
      go_enter Tryd.func78, Tryd.ntmps78
      go_wp2_with fail
      go_ret
      exact ⟨rfl, HB.out, _, HT.out⟩
end Go.Proofs.YtfolamkjlgpgmaaDoor
