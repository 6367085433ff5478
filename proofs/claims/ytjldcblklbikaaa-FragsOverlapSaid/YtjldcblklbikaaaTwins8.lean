/- Several texts in one: Same, Twin, Left. No condition beyond those that each part names. -/
import Derived.Test.YtjldcblklbikaaaRows8
import Derived.WalkSmall
import Derived.Test.YtjldcblklbikaaaPut
/- Are two slices of bytes the same: the walk. No condition. -/
namespace Go.Proofs.Ytjldcblklbikaaa
open Go.RowKit
set_option linter.unusedVariables false
set_option linter.unusedSimpArgs false
theorem take_one {l : List Nat} {k x : Nat} (h : l[k]? = some x) : l.take (k + 1) = l.take k ++ [x] := by rw [List.take_add_one, h]; rfl
theorem same_no {l m : List Nat} {k x y : Nat} (hx : l[k]? = some x) (hy : m[k]? = some y) (h : x ≠ y) : (l == m) = false := by
  rw [beq_eq_false_iff_ne]
  rintro rfl
  rw [hx] at hy
  exact h (Option.some.inj hy)
theorem same_yes {l m : List Nat} {k : Nat} (h : l.take k = m.take k) (hk : ¬ (k < l.length ∧ k < m.length)) (hl : k ≤ l.length) (hm : k ≤ m.length) : (l == m) = decide (l.length = m.length) := by
  by_cases e : l.length = m.length
  · have h1 : l = m := by
      have e1 : l.take k = l := List.take_of_length_le (by omega)
      have e2 : m.take k = m := List.take_of_length_le (by omega)
      rw [← e1, ← e2, h]
    rw [h1]; simp
  · rw [decide_eq_false e, beq_eq_false_iff_ne]
    rintro rfl; exact e rfl
theorem drewN_twice (w : World) (a b : Nat) : (w.drewN a).drewN b = w.drewN (a + b) := by simp [World.drewN, Nat.add_assoc]
def SamePost (b : Bool) (w : World) (e : Ending) (w' : World) : Prop := e = .returned (.bool b) ∧ ∃ j, w' = w.drewN j
set_option maxRecDepth 100000 in
set_option maxHeartbeats 1000000 in
theorem same57 {A A2 : Option Addr} {c c2 B : Nat} {l m : List Nat} (w : World) (h : Bs w B A c l) (h2 : Bs w B A2 c2 m) (hl : l.length ≤ 1000000000) :
    Calls Try.prog 50 #[.slice A l.length c, .slice A2 m.length c2] w (SamePost (l == m) w) := by
  have H1 := Lib.hid h.rd
  have H2 := Lib.hid h2.rd
  obtain ⟨n, hn⟩ : ∃ n, l.length = n := ⟨_, rfl⟩
  obtain ⟨p, hp⟩ : ∃ p, m.length = p := ⟨_, rfl⟩
  have HN := Lib.hid hn
  have HP := Lib.hid hp
  rw [hn] at hl ⊢
  rw [hp]
  clear h h2 hn hp
  go_enter Try.func50, Try.ntmps50
  go_wp2_with fail
  go_loopw [5] (fun i wr => ∃ k j : Nat, k ≤ n ∧ k ≤ p ∧ i = .int .i64 k ∧ l.take k = m.take k ∧ wr = w.drewN j) (fun i _ => n - (intOf i).toNat)
  case atStart => exact ⟨0, 0, Nat.zero_le _, Nat.zero_le _, rfl, rfl, rfl⟩
  case round =>
    obtain ⟨k, j, hk, hk2, rfl, ht, rfl⟩ := hrel
    have HT := Lib.hid ht
    clear ht
    by_cases hlt : k < n
    · by_cases hlt2 : k < p
      · obtain ⟨x, hx⟩ : ∃ x, l[k]? = some x := ⟨l[k]'(by rw [HN.out]; exact hlt), List.getElem?_eq_getElem _⟩
        obtain ⟨y, hy⟩ : ∃ y, m[k]? = some y := ⟨m[k]'(by rw [HP.out]; exact hlt2), List.getElem?_eq_getElem _⟩
        obtain ⟨b, o, rfl, hb, hc⟩ := H1.out (by rintro rfl; simp at hx)
        obtain ⟨b2, o2, rfl, hb2, hc2⟩ := H2.out (by rintro rfl; simp at hy)
        have c1 := hc k x hx
        have d1 := hc2 k y hy
        have HX := Lib.hid hx
        have HY := Lib.hid hy
        have t1 : decide ((k : Int) < (n : Int)) = true := by simp; omega
        have t2 : decide ((k : Int) < (p : Int)) = true := by simp; omega
        clear hx hy hc hc2
        by_cases hxy : x = y
        · have t3 : ((x : Int) != y) = false := by rw [bne_eq_false_iff_eq]; omega
          have HS : Hid (l.take (k + 1) = m.take (k + 1)) := Lib.hid (by rw [take_one HX.out, take_one HY.out, HT.out, hxy])
          clear hxy
          go_wp2_with fail
          go_quiet (fail)
          go_wp2_with fail
          go_roundw
          case rel => exact ⟨k + 1, _, by omega, by omega, by go_num, HS.out, rfl⟩
          case measure => simp [intOf]; omega
        · have t3 : ((x : Int) != y) = true := by rw [bne_iff_ne]; omega
          have HS := Lib.hid (same_no HX.out HY.out hxy)
          clear hxy
          go_wp2_with fail
          go_quiet (fail)
          go_wp2_with fail
          go_ret
          exact ⟨congrArg (fun b => Ending.returned (.bool b)) HS.out.symm, _, drewN_twice _ _ _⟩
      · have t1 : decide ((k : Int) < (n : Int)) = true := by simp; omega
        have t2 : decide ((k : Int) < (p : Int)) = false := by simp; omega
        have HS := Lib.hid (same_yes HT.out (by rw [HP.out]; omega) (by rw [HN.out]; omega) (by rw [HP.out]; omega))
        have e0 : ((n : Int) == p) = false := by rw [beq_eq_false_iff_ne]; omega
        have e1 : decide (l.length = m.length) = false := by rw [HN.out, HP.out]; exact decide_eq_false (by omega)
        rw [e1] at HS
        clear e1
        go_wp2_with fail
        go_ret
        exact ⟨congrArg (fun b => Ending.returned (.bool b)) HS.out.symm, _, rfl⟩
    · have t1 : decide ((k : Int) < (n : Int)) = false := by simp; omega
      have HS := Lib.hid (same_yes HT.out (by rw [HN.out]; omega) (by rw [HN.out]; omega) (by rw [HP.out]; omega))
      have e1 : decide (l.length = m.length) = ((n : Int) == p) := by rw [HN.out, HP.out, Bool.eq_iff_iff]; simp only [decide_eq_true_eq, beq_iff_eq]; omega
      rw [e1] at HS
      clear e1
      go_wp2_with fail
      go_ret
      exact ⟨congrArg (fun b => Ending.returned (.bool b)) HS.out.symm, _, rfl⟩
set_option maxRecDepth 100000 in
set_option maxHeartbeats 1000000 in
theorem same19 {A A2 : Option Addr} {c c2 B : Nat} {l m : List Nat} (w : World) (h : Bs w B A c l) (h2 : Bs w B A2 c2 m) (hl : l.length ≤ 1000000000) :
    Calls Try.prog 26 #[.slice A l.length c, .slice A2 m.length c2] w (SamePost (l == m) w) := by
  have HS := Lib.hid (same57 w h h2 hl)
  obtain ⟨n, hn⟩ : ∃ n, l.length = n := ⟨_, rfl⟩
  obtain ⟨p, hp⟩ : ∃ p, m.length = p := ⟨_, rfl⟩
  rw [hn, hp] at HS ⊢
  obtain ⟨q, hq⟩ : ∃ q, (l == m) = q := ⟨_, rfl⟩
  rw [hq] at HS ⊢
  clear h h2 hn hp hq hl
  go_enter Try.func26, Try.ntmps26
  go_wp2_with fail
  refine (HS.out).mono ?_
  rintro e w1 ⟨rfl, j, rfl⟩
  go_wp2_with fail
  go_ret
  exact ⟨rfl, j, rfl⟩
end Go.Proofs.Ytjldcblklbikaaa

/- A twin of bytes: the walk. No condition but that the bytes fit a machine. -/
namespace Go.Proofs.Ytjldcblklbikaaa
open Go.RowKit
set_option linter.unusedVariables false
set_option linter.unusedSimpArgs false
/-- a twin's block: the bytes, and strange ones behind -/
def twinL (l : List Nat) (s : Nat) : List Nat := l ++ List.replicate 4 s
/-- while it is filled -/
def twinTo (l : List Nat) (s k : Nat) : List Nat := (twinL l s).take k ++ List.replicate (l.length + 4 - k) 0
theorem twinL_length (l : List Nat) (s : Nat) : (twinL l s).length = l.length + 4 := by simp [twinL]
theorem twinTo_set {l : List Nat} {s k x : Nat} (hk : k < l.length + 4) (hx : (twinL l s)[k]? = some x) : (row8 (twinTo l s k)).toArray.setIfInBounds k (.int .u8 (x : Int)) = (row8 (twinTo l s (k + 1))).toArray := by
  rw [List.setIfInBounds_toArray]
  congr 1
  have h1 : ((twinL l s).take k).length = k := by rw [List.length_take, twinL_length]; omega
  have h2 : List.replicate (l.length + 4 - k) 0 = 0 :: List.replicate (l.length + 4 - (k + 1)) 0 := by
    rw [show l.length + 4 - k = (l.length + 4 - (k + 1)) + 1 by omega, List.replicate_succ]
  unfold twinTo
  rw [List.take_add_one, hx, h2, row8_append, row8_append]
  have h3 : (row8 ((twinL l s).take k)).length = k := by rw [row8_length]; exact h1
  rw [List.set_append_right _ _ (by omega), h3, Nat.sub_self]
  simp [row8]
theorem twinTo_get {l : List Nat} {s k : Nat} (hk : k < l.length + 4) : (row8 (twinTo l s k)).toArray[k]? = some (.int .u8 0) := by
  have h1 : ((twinL l s).take k).length = k := by rw [List.length_take, twinL_length]; omega
  have : (twinTo l s k)[k]? = some 0 := by
    unfold twinTo
    rw [List.getElem?_append_right (by omega), h1, Nat.sub_self, List.getElem?_replicate, if_pos (by omega)]
  simpa using row8_get this
theorem twinTo_all {l : List Nat} {s : Nat} : twinTo l s (l.length + 4) = twinL l s := by
  unfold twinTo
  rw [Nat.sub_self, List.take_of_length_le (by rw [twinL_length]; exact Nat.le_refl _)]
  simp
structure TwinI (w W : World) (g : Nat) (l : List Nat) (s k : Nat) : Prop where
  row : W.heap[g]? = some (.cells (row8 (twinTo l s k)).toArray 5 (0, 0))
  below : Below g w W
theorem TwinI.one {w W : World} {g s k x : Nat} {l : List Nat} (I : TwinI w W g l s k) (hk : k < l.length + 4) (hx : (twinL l s)[k]? = some x) : TwinI w (W.setCell ⟨g, k, none⟩ (.int .u8 (x : Int))) g l s (k + 1) := by
  have t := Turned.setCell I.row k (.int .u8 (x : Int))
  rw [twinTo_set hk hx] at t
  exact ⟨t.get (lt_of_blk I.row), I.below.trans (t.below (Nat.le_refl _))⟩
theorem TwinI.two {w W : World} {g s k x : Nat} {y : Value} {l : List Nat} (I : TwinI w W g l s k) (hk : k < l.length + 4) (hx : (twinL l s)[k]? = some x) : TwinI w ((W.setCell ⟨g, k, none⟩ y).setCell ⟨g, k, none⟩ (.int .u8 (x : Int))) g l s (k + 1) := by
  have t0 := Turned.setCell I.row k y
  have t := t0.trans (Turned.setCell (t0.get (lt_of_blk I.row)) k (.int .u8 (x : Int)))
  rw [show ((row8 (twinTo l s k)).toArray.setIfInBounds k y).setIfInBounds k (.int .u8 (x : Int)) = (row8 (twinTo l s k)).toArray.setIfInBounds k (.int .u8 (x : Int)) by
    apply Array.ext_getElem?; intro j; simp only [Array.getElem?_setIfInBounds, Array.size_setIfInBounds]; by_cases h : k = j <;> simp [h], twinTo_set hk hx] at t
  exact ⟨t.get (lt_of_blk I.row), I.below.trans (t.below (Nat.le_refl _))⟩
/-- what a twin is -/
def TwinPost (l : List Nat) (s : Nat) (w : World) (e : Ending) (w' : World) : Prop := e = .returned (.slice (some ⟨w.heap.size, 0, none⟩) l.length (l.length + 4)) ∧ w'.heap[w.heap.size]? = some (.cells (row8 (twinL l s)).toArray 5 (0, 0)) ∧ Below w.heap.size w w'
set_option maxRecDepth 100000 in
set_option maxHeartbeats 2000000 in
theorem twin46 {A : Option Addr} {c : Nat} {l : List Nat} (s : Nat) (w : World) (h : Bs w w.heap.size A c l) (hl : l.length ≤ 5000) :
    Calls Try.prog 53 #[.slice A l.length c, .int .u8 (s : Int)] w (TwinPost l s w) := by
  have HRD := Lib.hid h.rd
  obtain ⟨n, hn⟩ : ∃ n, l.length = n := ⟨_, rfl⟩
  have HN := Lib.hid hn
  rw [hn] at hl ⊢
  clear h hn
  have hmk : ∀ W : World, (Instr.makeSlice 41 (.int .i64 ((n : Int) + 4)) (.int .i64 ((n : Int) + 4))).run Try.prog W = .ok (.slice (some ⟨W.heap.size, 0, none⟩) (n + 4) (n + 4)) (W.alloc (.cells (zer (n + 4)) 5)) := fun W => make_zeros (n + 4) W (by omega)
  have I0 : TwinI w (w.alloc (.cells (zer (n + 4)) 5)) w.heap.size l s 0 := ⟨by rw [heap_alloc_new]; unfold zer twinTo; rw [HN.out]; rfl, (Below.refl _ _).alloc (Nat.le_refl _) _⟩
  have HI := Lib.hid I0
  clear I0
  go_enter Try.func53, Try.ntmps53
  go_wp2_with fail
  obtain ⟨g, hg⟩ : ∃ g, g = w.heap.size := ⟨_, rfl⟩
  rw [← hg] at HI ⊢
  have NG := Lib.hid hg; clear hg
  go_loopw [6] (fun i wr => ∃ k : Nat, k ≤ n + 4 ∧ i = .int .i64 k ∧ TwinI w wr g l s k) (fun i _ => n + 4 - (intOf i).toNat)
  case atStart => exact ⟨0, by omega, rfl, HI.out⟩
  case round =>
    clear HI
    obtain ⟨k, hk, rfl, I⟩ := hrel
    by_cases hlt : k < n + 4
    · have c0 := cell_blk I.row k
      rw [twinTo_get (by rw [HN.out]; exact hlt)] at c0
      have f0 := frozen_blk I.row k
      have HI := Lib.hid I
      clear I
      have t1 : (k : Int) < (n : Int) + 4 := by omega
      by_cases hln : k < n
      · obtain ⟨x, hx⟩ : ∃ x, l[k]? = some x := ⟨l[k]'(by rw [HN.out]; exact hln), List.getElem?_eq_getElem _⟩
        obtain ⟨b, o, rfl, hb, hc⟩ := HRD.out (by rintro rfl; simp at hx)
        have c1 : wr.cell? ⟨b, o + k, none⟩ = some (.int .u8 (x : Int)) := (HI.out.below.cell (p := ⟨b, o + k, none⟩) (by rw [NG.out]; exact hb)).trans (hc k x hx)
        have hbg : b ≠ g := by rw [NG.out]; omega
        have HZ : Hid (TwinI w ((wr.setCell ⟨g, k, none⟩ (.int .u8 (s : Int))).setCell ⟨g, k, none⟩ (.int .u8 (x : Int))) g l s (k + 1)) := Lib.hid (HI.out.two (by rw [HN.out]; exact hlt) (by unfold twinL; rw [List.getElem?_append_left (by rw [HN.out]; exact hln)]; exact hx))
        clear hx hc
        go_wp2_with fail
        go_roundw
        case rel => exact ⟨k + 1, by omega, by go_num, HZ.out⟩
        case measure => simp [intOf]; omega
      · have HZ : Hid (TwinI w (wr.setCell ⟨g, k, none⟩ (.int .u8 (s : Int))) g l s (k + 1)) := Lib.hid (HI.out.one (by rw [HN.out]; exact hlt) (by unfold twinL; rw [List.getElem?_append_right (by rw [HN.out]; omega), List.getElem?_replicate, if_pos (by rw [HN.out]; omega)]))
        go_wp2_with fail
        go_roundw
        case rel => exact ⟨k + 1, by omega, by go_num, HZ.out⟩
        case measure => simp [intOf]; omega
    · have e : k = n + 4 := by omega
      have HR : Hid (wr.heap[g]? = some (.cells (row8 (twinL l s)).toArray 5 (0, 0))) := Lib.hid (by rw [I.row, e, ← HN.out, twinTo_all])
      have HB := Lib.hid I.below
      have t1 : ¬ ((k : Int) < (n : Int) + 4) := by omega
      clear I
      go_wp2_with fail
      go_ret
      exact ⟨by rw [← NG.out, HN.out]; rfl, by rw [← NG.out]; exact HR.out, by rw [← NG.out]; exact HB.out⟩
set_option maxRecDepth 100000 in
set_option maxHeartbeats 1000000 in
theorem twin9 {A : Option Addr} {c : Nat} {l : List Nat} (w : World) (h : Bs w w.heap.size A c l) (hl : l.length ≤ 5000) :
    Calls Try.prog 33 #[.slice A l.length c] w (TwinPost l 199 w) := by
  have HT := Lib.hid (twin46 199 w h hl)
  obtain ⟨n, hn⟩ : ∃ n, l.length = n := ⟨_, rfl⟩
  have HN := Lib.hid hn
  rw [hn] at HT ⊢
  clear h hl hn
  go_enter Try.func33, Try.ntmps33
  go_wp2_with fail
  refine (HT.out).mono ?_
  rintro e w1 ⟨rfl, h1, h2⟩
  have H1 := Lib.hid h1
  have H2 := Lib.hid h2
  clear h1 h2 HT
  go_wp2_with fail
  go_ret
  exact ⟨rfl, H1.out, H2.out⟩
end Go.Proofs.Ytjldcblklbikaaa

/- Is a twin of bytes as it was made: the walk. No condition but that the bytes are few. -/
namespace Go.Proofs.Ytjldcblklbikaaa
open Go.RowKit
set_option linter.unusedVariables false
set_option linter.unusedSimpArgs false
theorem twin_bs {w : World} {g s : Nat} {l : List Nat} (h : w.heap[g]? = some (.cells (row8 (twinL l s)).toArray 5 (0, 0))) (hl : l.length ≤ 5000) : Bs w w.heap.size (some ⟨g, 0, none⟩) (l.length + 4) l := by
  refine ⟨fun _ => ⟨g, 0, rfl, lt_of_blk h, fun k x hx => ?_⟩, by omega, (fun e => by cases e), by unfold maxLen; omega⟩
  rw [Nat.zero_add, cell_blk h]
  have : (twinL l s)[k]? = some x := by unfold twinL; rw [List.getElem?_append_left (List.getElem?_eq_some_iff.1 hx).1]; exact hx
  simpa using row8_get this
theorem twin_room {w : World} {g s i : Nat} {l : List Nat} (h : w.heap[g]? = some (.cells (row8 (twinL l s)).toArray 5 (0, 0))) (hi : i < 4) : w.cell? ⟨g, l.length + i, none⟩ = some (.int .u8 (s : Int)) := by
  rw [cell_blk h]
  have : (twinL l s)[l.length + i]? = some s := by unfold twinL; rw [List.getElem?_append_right (by omega), List.getElem?_replicate, if_pos (by omega)]
  simpa using row8_get this
set_option maxRecDepth 100000 in
set_option maxHeartbeats 1000000 in
theorem left53 {A : Option Addr} {c g s : Nat} {l : List Nat} (w : World) (h : Bs w w.heap.size A c l) (hg : w.heap[g]? = some (.cells (row8 (twinL l s)).toArray 5 (0, 0))) (hl : l.length ≤ 5000) :
    Calls Try.prog 67 #[.slice (some ⟨g, 0, none⟩) l.length (l.length + 4), .slice A l.length c, .int .u8 (s : Int)] w (SamePost true w) := by
  have HS := Lib.hid (same57 w (twin_bs hg hl) h (by omega))
  rw [show (l == l) = true from beq_self_eq_true _] at HS
  have HR := Lib.hid (fun (i : Nat) (hi : i < 4) => twin_room (i := i) hg hi)
  obtain ⟨n, hn⟩ : ∃ n, l.length = n := ⟨_, rfl⟩
  rw [hn] at HS HR hl ⊢
  clear h hg hn
  have hcap : n < n + 4 := by omega
  go_enter Try.func67, Try.ntmps67
  go_wp2_with fail
  refine (HS.out).mono ?_
  rintro e w1 ⟨rfl, j, rfl⟩
  go_wp2_with fail
  go_loop [8] (fun i => ∃ k : Nat, k ≤ 4 ∧ i = .int .i64 k) (fun i => 4 - (intOf i).toNat)
  case atStart => exact ⟨0, by omega, rfl⟩
  case round =>
    obtain ⟨k, hk, rfl⟩ := hrel
    by_cases hlt : k < 4
    · have c0 := HR.out k hlt
      have t1 : (k : Int) < 4 := by omega
      go_wp2_with fail
      go_round
      case rel => exact ⟨k + 1, by omega, by go_num⟩
      case measure => simp [intOf]; omega
    · obtain rfl : k = 4 := by omega
      go_wp2_with fail
      go_ret
      exact ⟨rfl, j, rfl⟩
set_option maxRecDepth 100000 in
set_option maxHeartbeats 1000000 in
theorem left13 {A : Option Addr} {c g : Nat} {l : List Nat} (w : World) (h : Bs w w.heap.size A c l) (hg : w.heap[g]? = some (.cells (row8 (twinL l 199)).toArray 5 (0, 0))) (hl : l.length ≤ 5000) :
    Calls Try.prog 51 #[.slice (some ⟨g, 0, none⟩) l.length (l.length + 4), .slice A l.length c] w (SamePost true w) := by
  have HS := Lib.hid (left53 w h hg hl)
  obtain ⟨n, hn⟩ : ∃ n, l.length = n := ⟨_, rfl⟩
  rw [hn] at HS ⊢
  clear h hg hl hn
  go_enter Try.func51, Try.ntmps51
  go_wp2_with fail
  refine (HS.out).mono ?_
  rintro e w1 ⟨rfl, j, rfl⟩
  go_wp2_with fail
  go_ret
  exact ⟨rfl, j, rfl⟩
theorem two_set {w : World} {p : Nat} {u0 u1 v0 v1 : Value} {t : TypeId} (h : w.heap[p]? = some (.cells #[u0, u1] t (0, 0))) : Turned p (.cells #[v0, v1] t (0, 0)) w ((w.setCell ⟨p, 0, none⟩ v0).setCell ⟨p, 1, none⟩ v1) := by
  have t0 := Turned.setCell h 0 v0
  exact t0.trans (Turned.setCell (t0.get (lt_of_blk h)) 1 v1)
theorem own_blk2 {w : World} {B e s n kb T : Nat} {v : Value} {xs : List Value} {cs : Array Value} {z : Nat × Nat} (h : w.ownsRow B e s v n xs) (k : w.heap[kb]? = some (.cells cs T z)) (hne : e ≠ T) : v.ownBlock = none ∨ v.ownBlock ≠ some kb := by
  rcases h.2 with ⟨rfl, _⟩ | ⟨g, cap, cur, rfl, hb, hg, _⟩
  · exact .inl rfl
  · right
    intro x
    simp only [Value.ownBlock, Option.some.injEq] at x
    subst x
    rw [hg] at k
    cases k
    exact hne rfl
def BoolPost (b : Bool) (w : World) (e : Ending) (w' : World) : Prop := e = .returned (.bool b) ∧ Below w.heap.size w w'
end Go.Proofs.Ytjldcblklbikaaa
