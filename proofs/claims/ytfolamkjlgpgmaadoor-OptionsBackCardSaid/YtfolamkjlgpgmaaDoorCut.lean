/- A slice cloned, clipped; a cutter of bytes. No condition but that the bytes fit a machine. -/
import Derived.Test.YtfolamkjlgpgmaaDoorWords
namespace Go.Proofs.YtfolamkjlgpgmaaDoor
open Go.RowKit
set_option linter.unusedVariables false
set_option linter.unusedSimpArgs false
/-- a slice of bytes that can be read -/
structure Bs (w : World) (B : Nat) (A : Option Addr) (c : Nat) (l : List Nat) : Prop where
  rd : RdL w B A l
  cap : l.length ≤ c
  nil : A = none → l = [] ∧ c = 0
  max : c ≤ maxLen
theorem Bs.below {w w' : World} {B c : Nat} {A : Option Addr} {l : List Nat} (h : Bs w B A c l) (hb : Below B w w') : Bs w' B A c l := ⟨h.rd.below hb, h.cap, h.nil, h.max⟩
theorem Bs.mono {w : World} {B C c : Nat} {A : Option Addr} {l : List Nat} (h : Bs w B A c l) (hB : B ≤ C) : Bs w C A c l := ⟨h.rd.mono hB, h.cap, h.nil, h.max⟩
theorem Bs.own {w : World} {base : Nat} {v : Value} {l : List Nat} (h : w.ownsRow base 5 1 v l.length (row8 l)) : ∃ A c, v = .slice A l.length c ∧ Bs w w.heap.size A c l ∧ (A = none ∨ ∃ g, A = some ⟨g, 0, none⟩ ∧ base ≤ g ∧ g < w.heap.size) := by
  rcases h.2 with ⟨rfl, hl⟩ | ⟨g, cap, cur, rfl, hb, hg, hn, hm, hs, ht⟩
  · exact ⟨none, 0, by rw [hl], ⟨fun h => absurd (List.eq_nil_of_length_eq_zero hl) h, by omega, fun _ => ⟨List.eq_nil_of_length_eq_zero hl, rfl⟩, (by unfold maxLen; omega)⟩, .inl rfl⟩
  · obtain ⟨A, c, e, h1, h2, h3, h4⟩ := own_reads h
    cases e
    exact ⟨_, _, rfl, ⟨h3, hn, (fun h => by cases h), hm⟩, .inr ⟨g, rfl, hb, lt_of_blk hg⟩⟩
set_option maxRecDepth 100000 in
set_option maxHeartbeats 1000000 in
theorem clip56 (A : Option Addr) (n c : Nat) (hn : n ≤ c) (w : World) : Calls Tryd.prog 56 #[.slice A n c] w fun e w' => e = .returned (.slice A n n) ∧ w = w' := by
  go_enter Tryd.func56, Tryd.ntmps56
  go_wp2_with fail
  go_ret
  exact ⟨rfl, rfl⟩
set_option maxRecDepth 100000 in
set_option maxHeartbeats 1000000 in
theorem clone60 {A : Option Addr} {c B : Nat} {l : List Nat} (w : World) (h : Bs w B A c l) (hl : l.length ≤ 1000000000) :
    Calls Tryd.prog 60 #[.slice A l.length c] w fun e w' => ∃ v', e = .returned v' ∧ w'.ownsRow w.heap.size 5 1 v' l.length (row8 l) ∧ Below w.heap.size w w' ∧ (v' = .slice none 0 0 ↔ A = none) := by
  obtain ⟨i5, hi, hz0, hz1, hz2⟩ := info_parts info5
  cases A with
  | none =>
    obtain ⟨rfl, rfl⟩ := h.nil rfl
    clear h
    have hne := fun (W : World) => Lib.run_eql_slice_nil (P := Tryd.prog) W 22 5 none 0 0 0 0 Tryd.underlying22
    simp only [Option.isNone_none] at hne
    go_enter Tryd.func60, Tryd.ntmps60
    go_wp2_with fail
    go_ret
    exact ⟨_, rfl, World.ownsRow_nil _ _ _ _, Below.refl _ _, by simp⟩
  | some a =>
    have hd : ∀ W : World, W.heap = (w.alloc (.cells #[] 5)).heap → ∀ j u, (row8 l)[j]? = some u → W.cell? (a.add j) = some u := by
      intro W hW j u hu
      obtain ⟨x, hx, rfl⟩ := row8_inv hu
      obtain ⟨b', o', e, hb, hc⟩ := h.rd (by rintro rfl; simp at hx)
      cases e
      have h1 := hc j x hx
      have hadd : (⟨b', o', none⟩ : Addr).add j = ⟨b', o' + j, none⟩ := by unfold Addr.add; split <;> simp_all
      rw [hadd, ← h1]
      have hlt := lt_of_cell h1
      simp only [World.cell?, hW, heap_alloc_old w _ hlt]
    have hown : (w.alloc (.cells #[] 5)).ownsRow w.heap.size 5 1 (.slice (some ⟨w.heap.size, 0, none⟩) 0 0) 0 [] := World.ownsRow_made w #[] 0 (Nat.le_refl _) (by unfold maxLen; omega) (by simp)
    have hne := fun (n : Nat) (W : World) => Lib.run_eql_slice_nil (P := Tryd.prog) W 22 5 (some a) n c 0 0 Tryd.underlying22
    simp only [Option.isNone_some] at hne
    have HD := Lib.hid hd
    have HO := Lib.hid hown
    have hlen := row8_length l
    have HL := Lib.hid hlen
    have hone := row8_one l
    have H1 := Lib.hid hone
    obtain ⟨n, hn⟩ : ∃ n, l.length = n := ⟨_, rfl⟩
    rw [hn] at HL hl ⊢
    clear h hd hown hlen hone hn
    go_enter Tryd.func60, Tryd.ntmps60
    go_wp2_with (at_builtin; refine wpList_append_own _ rfl _ _ 22 rfl w.heap.size 5 i5 (.int .u8 0) 1 1 Tryd.underlying22 hi hz0 hz1 hz2 rfl (by decide) _ _ _ rfl HO.out a n c (row8 l) rfl ?c1 ?c2 H1.out ?c3 ?c4 ?c5 ?_)
    case c1 => rw [HL.out]; omega
    case c2 => exact HD.out _ rfl
    case c3 => unfold maxLen; omega
    case c4 => omega
    case c5 => simp
    intro v' w1 hown' hgrow hnil
    have HR := Lib.hid hown'
    have HG := Lib.hid hgrow
    have HN := Lib.hid hnil
    clear hown' hgrow hnil
    go_wp2_with fail
    go_ret
    refine ⟨v', rfl, by have := HR.out; simpa using this, ?_, ?_⟩
    · exact Below.grown' ((Below.refl _ _).alloc (Nat.le_refl _) _) HG.out (by simp) (fun k hk => by simp [Value.ownBlock] at hk; omega)
    · constructor
      · intro e; exact absurd e HN.out
      · intro e; cases e
end Go.Proofs.YtfolamkjlgpgmaaDoor
