/- The list of all groups: the walk. No condition but that the maps are ones. (Written out by exp.py.) -/
import Derived.Test.YthbkjhacnnoolaaDoorGV
namespace Go.Proofs.YthbkjhacnnoolaaDoor
open Go.RowKit Go.Sort Go.Shelf Go.Lib Go.Maps
set_option linter.unusedVariables false
set_option linter.unusedSimpArgs false
/-- a row of addresses in memory, at a base or behind it -/
def RowAt (W : World) (base : Nat) (p : Option Addr) (ks : List AdrT) : Prop :=
  (p = none ∧ ks = []) ∨ ∃ g cur, p = some ⟨g, 0, none⟩ ∧ base ≤ g ∧ W.heap[g]? = some (.cells cur 26 (0, 0)) ∧ cur.toList.take (ks.length * 16) = flatT ks
theorem rowAt_own {W : World} {base : Nat} {p : Option Addr} {cap : Nat} {ks : List AdrT} (h : W.ownsRow base 26 16 (.slice p ks.length cap) ks.length (flatT ks)) : RowAt W base p ks := by
  rcases h.2 with ⟨e, h0⟩ | ⟨g, cap', cur, e, hb, hg, h1, h2, h3, h4⟩
  · injection e with e1 e2 e3
    exact .inl ⟨e1, List.eq_nil_of_length_eq_zero e2⟩
  · injection e with e1 e2 e3
    exact .inr ⟨g, cur, e1, hb, hg, h4⟩
set_option maxRecDepth 100000 in
set_option maxHeartbeats 2000000 in
theorem list17 {t mj ma mc n : Nat} {D : PD} (w : World) (htb : Tb w t mj ma mc) (hj : MJ w mj n D) (hAK : AdrKeys D) (ht : Canon D) (hN : Maps.size D ≤ 4096) :
    Calls Tryd.prog 17 #[.pointer (some ⟨t, 0, none⟩)] w fun e w' => ∃ (p : Option Addr) (ks : List AdrT), e = .returned (.slice p ks.length ks.length) ∧ AllKeys D (ks.map (·.1)) ∧ Rising ks ∧ ks.length = Maps.size D ∧ RowAt w' w.heap.size p ks ∧ Below w.heap.size w w' := by
  have h21 := there21 w htb
  have h30 := rising30 w hj hAK ht hN
  have hc := cell_blk htb.blk 0
  simp only [List.getElem?_toArray, List.getElem?_cons_zero] at hc
  have hlen : ∀ ks : List AdrT, AllKeys D (ks.map (·.1)) → ks.length = Maps.size D := fun ks h => by
    have := h.length ht hAK
    rwa [List.length_map] at this
  have HL := Lib.hid hlen
  have HN := Lib.hid hN
  clear htb hj hAK ht hlen hN
  go_enter Tryd.func17, Tryd.ntmps17
  go_wp2_with (first
    | (go_at_call 21; refine h21.mono ?_; rintro e w' ⟨rfl, rfl⟩)
    | (go_at_call 30; refine h30.mono ?_; rintro e w' ⟨v, ks, rfl, hS, hR, hrow, hb⟩; obtain ⟨p, cap, rfl⟩ := own_slice hrow; have hcap := own_cap hrow; have hc2 : cap < 9223372036854775808 := Nat.lt_of_le_of_lt hcap.2.2 (by decide); have HS := Lib.hid hS; have HR := Lib.hid hrow; have hL := HL.out ks hS; have hM := HN.out; rw [← hL] at hM; have HK := Lib.hid hL; have HM := Lib.hid hR; clear hS hrow hR hL)
    | (go_at_call 29; refine (clip29b _ hcap.1 hcap.2.1 hc2).mono ?_; rintro e w' ⟨rfl, rfl⟩))
  go_ret
  exact ⟨p, ks, rfl, HS.out, HM.out, HK.out, rowAt_own HR.out, hb⟩
end Go.Proofs.YthbkjhacnnoolaaDoor
