/- Are two slices of bytes the same: the walk. No condition. -/
import Derived.Test.YtfolamkjlgpgmaaDoorCut
import Derived.WalkSmall
namespace Go.Proofs.YtfolamkjlgpgmaaDoor
open Go.RowKit
set_option linter.unusedVariables false
set_option linter.unusedSimpArgs false
theorem take_one {l : List Nat} {k x : Nat} (h : l[k]? = some x) : l.take (k + 1) = l.take k ++ [x] := by rw [List.take_add_one, h]; rfl
theorem same_no {l m : List Nat} {k x y : Nat} (hx : l[k]? = some x) (hy : m[k]? = some y) (h : x ≠ y) : (l == m) = false := by
  rw [beq_eq_false_iff_ne]
  rintro rfl
  rw [hx] at hy
  exact h (Option.some.inj hy)
theorem same_yes {l m : List Nat} {k : Nat} (h : l.take k = m.take k) (hk : ¬ (k < l.length ∧ k < m.length)) (hl : k ≤ l.length) (hm : k ≤ m.length) : (l == m) = decide (l.length = m.length) := by
  by_cases e : l.length = m.length
  · have h1 : l = m := by
      have e1 : l.take k = l := List.take_of_length_le (by omega)
      have e2 : m.take k = m := List.take_of_length_le (by omega)
      rw [← e1, ← e2, h]
    rw [h1]; simp
  · rw [decide_eq_false e, beq_eq_false_iff_ne]
    rintro rfl; exact e rfl
theorem drewN_twice (w : World) (a b : Nat) : (w.drewN a).drewN b = w.drewN (a + b) := by simp [World.drewN, Nat.add_assoc]
def SamePost (b : Bool) (w : World) (e : Ending) (w' : World) : Prop := e = .returned (.bool b) ∧ ∃ j, w' = w.drewN j
set_option maxRecDepth 100000 in
set_option maxHeartbeats 1000000 in
theorem same57 {A A2 : Option Addr} {c c2 B : Nat} {l m : List Nat} (w : World) (h : Bs w B A c l) (h2 : Bs w B A2 c2 m) (hl : l.length ≤ 1000000000) :
    Calls Tryd.prog 57 #[.slice A l.length c, .slice A2 m.length c2] w (SamePost (l == m) w) := by
  have H1 := Lib.hid h.rd
  have H2 := Lib.hid h2.rd
  obtain ⟨n, hn⟩ : ∃ n, l.length = n := ⟨_, rfl⟩
  obtain ⟨p, hp⟩ : ∃ p, m.length = p := ⟨_, rfl⟩
  have HN := Lib.hid hn
  have HP := Lib.hid hp
  rw [hn] at hl ⊢
  rw [hp]
  clear h h2 hn hp
  go_enter Tryd.func57, Tryd.ntmps57
  go_wp2_with fail
  go_loopw [5] (fun i wr => ∃ k j : Nat, k ≤ n ∧ k ≤ p ∧ i = .int .i64 k ∧ l.take k = m.take k ∧ wr = w.drewN j) (fun i _ => n - (intOf i).toNat)
  case atStart => exact ⟨0, 0, Nat.zero_le _, Nat.zero_le _, rfl, rfl, rfl⟩
  case round =>
    obtain ⟨k, j, hk, hk2, rfl, ht, rfl⟩ := hrel
    have HT := Lib.hid ht
    clear ht
    by_cases hlt : k < n
    · by_cases hlt2 : k < p
      · obtain ⟨x, hx⟩ : ∃ x, l[k]? = some x := ⟨l[k]'(by rw [HN.out]; exact hlt), List.getElem?_eq_getElem _⟩
        obtain ⟨y, hy⟩ : ∃ y, m[k]? = some y := ⟨m[k]'(by rw [HP.out]; exact hlt2), List.getElem?_eq_getElem _⟩
        obtain ⟨b, o, rfl, hb, hc⟩ := H1.out (by rintro rfl; simp at hx)
        obtain ⟨b2, o2, rfl, hb2, hc2⟩ := H2.out (by rintro rfl; simp at hy)
        have c1 := hc k x hx
        have d1 := hc2 k y hy
        have HX := Lib.hid hx
        have HY := Lib.hid hy
        have t1 : decide ((k : Int) < (n : Int)) = true := by simp; omega
        have t2 : decide ((k : Int) < (p : Int)) = true := by simp; omega
        clear hx hy hc hc2
        by_cases hxy : x = y
        · have t3 : ((x : Int) != y) = false := by rw [bne_eq_false_iff_eq]; omega
          have HS : Hid (l.take (k + 1) = m.take (k + 1)) := Lib.hid (by rw [take_one HX.out, take_one HY.out, HT.out, hxy])
          clear hxy
          go_wp2_with fail
          go_quiet (fail)
          go_wp2_with fail
          go_roundw
          case rel => exact ⟨k + 1, _, by omega, by omega, by go_num, HS.out, rfl⟩
          case measure => simp [intOf]; omega
        · have t3 : ((x : Int) != y) = true := by rw [bne_iff_ne]; omega
          have HS := Lib.hid (same_no HX.out HY.out hxy)
          clear hxy
          go_wp2_with fail
          go_quiet (fail)
          go_wp2_with fail
          go_ret
          exact ⟨congrArg (fun b => Ending.returned (.bool b)) HS.out.symm, _, drewN_twice _ _ _⟩
      · have t1 : decide ((k : Int) < (n : Int)) = true := by simp; omega
        have t2 : decide ((k : Int) < (p : Int)) = false := by simp; omega
        have HS := Lib.hid (same_yes HT.out (by rw [HP.out]; omega) (by rw [HN.out]; omega) (by rw [HP.out]; omega))
        have e0 : ((n : Int) == p) = false := by rw [beq_eq_false_iff_ne]; omega
        have e1 : decide (l.length = m.length) = false := by rw [HN.out, HP.out]; exact decide_eq_false (by omega)
        rw [e1] at HS
        clear e1
        go_wp2_with fail
        go_ret
        exact ⟨congrArg (fun b => Ending.returned (.bool b)) HS.out.symm, _, rfl⟩
    · have t1 : decide ((k : Int) < (n : Int)) = false := by simp; omega
      have HS := Lib.hid (same_yes HT.out (by rw [HN.out]; omega) (by rw [HN.out]; omega) (by rw [HP.out]; omega))
      have e1 : decide (l.length = m.length) = ((n : Int) == p) := by rw [HN.out, HP.out, Bool.eq_iff_iff]; simp only [decide_eq_true_eq, beq_iff_eq]; omega
      rw [e1] at HS
      clear e1
      go_wp2_with fail
      go_ret
      exact ⟨congrArg (fun b => Ending.returned (.bool b)) HS.out.symm, _, rfl⟩
set_option maxRecDepth 100000 in
set_option maxHeartbeats 1000000 in
theorem same19 {A A2 : Option Addr} {c c2 B : Nat} {l m : List Nat} (w : World) (h : Bs w B A c l) (h2 : Bs w B A2 c2 m) (hl : l.length ≤ 1000000000) :
    Calls Tryd.prog 19 #[.slice A l.length c, .slice A2 m.length c2] w (SamePost (l == m) w) := by
  have HS := Lib.hid (same57 w h h2 hl)
  obtain ⟨n, hn⟩ : ∃ n, l.length = n := ⟨_, rfl⟩
  obtain ⟨p, hp⟩ : ∃ p, m.length = p := ⟨_, rfl⟩
  rw [hn, hp] at HS ⊢
  obtain ⟨q, hq⟩ : ∃ q, (l == m) = q := ⟨_, rfl⟩
  rw [hq] at HS ⊢
  clear h h2 hn hp hq hl
  go_enter Tryd.func19, Tryd.ntmps19
  go_wp2_with fail
  refine (HS.out).mono ?_
  rintro e w1 ⟨rfl, j, rfl⟩
  go_wp2_with fail
  go_ret
  exact ⟨rfl, j, rfl⟩
end Go.Proofs.YtfolamkjlgpgmaaDoor
