/- slices.Grow of nothing, slices.Concat of slices of bytes. No condition but that the bytes fit a machine. -/
import Derived.Test.YtfolamkjlgpgmaaDoorZeros
import Derived.Test.YtfolamkjlgpgmaaDoorCut
namespace Go.Proofs.YtfolamkjlgpgmaaDoor
open Go.RowKit
set_option linter.unusedVariables false
set_option linter.unusedSimpArgs false
set_option maxRecDepth 100000 in
set_option maxHeartbeats 1000000 in
theorem grow79 (n : Nat) (w : World) (hn : n ≤ 1000000000) :
    Calls Tryd.prog 79 #[.slice none 0 0, .int .i64 (n : Int)] w fun e w' => ∃ v, e = .returned v ∧ w'.ownsRow w.heap.size 5 1 v 0 [] ∧ Below w.heap.size w w' := by
  by_cases h0 : n = 0
  · subst h0
    go_enter Tryd.func79, Tryd.ntmps79
    go_wp2_with fail
    go_ret
    exact ⟨_, rfl, World.ownsRow_nil _ _ _ _, Below.refl _ _⟩
  · have hp : (0 : Int) < n := by omega
    have hown : w.ownsRow w.heap.size 5 1 (.slice none 0 0) ([] : List Nat).length (row8 []) := World.ownsRow_nil _ _ _ _
    have HO := Lib.hid hown
    clear hown
    go_enter Tryd.func79, Tryd.ntmps79
    go_wp2_with (at_builtin; refine app0 rfl _ _ rfl w.heap.size (.slice none 0 0) [] rfl HO.out n rfl (by simp; omega) (Nat.le_refl _) ?_)
    intro v' w1 hown' hgrow
    have hB : Below w.heap.size w w1 := Below.grown' (Below.refl _ _) hgrow (Nat.le_refl _) (fun k hk => by cases hk)
    rcases hown'.2 with ⟨rfl, h1⟩ | ⟨g, cap, cur, rfl, hb, hg, hnc, hm, hs, ht⟩
    · exact absurd h1 h0
    · have HR : Hid (w1.ownsRow w.heap.size 5 1 (.slice (some ⟨g, 0, none⟩) 0 cap) 0 []) := Lib.hid ⟨by simp, .inr ⟨g, cap, cur, rfl, hb, hg, Nat.zero_le _, hm, hs, by simp⟩⟩
      have HB := Lib.hid hB
      clear hown' hgrow hB hg hs ht
      go_wp2_with fail
      go_ret
      exact ⟨_, rfl, HR.out, HB.out⟩
/-- a slice of bytes that is put behind others -/
structure Piece where
  adr : Option Addr
  cap : Nat
  bytes : List Nat
def total (xs : List Piece) : Nat := (xs.map fun x => x.bytes.length).sum
def allB (xs : List Piece) : List Nat := xs.flatMap fun x => x.bytes
theorem total_succ {xs : List Piece} {k : Nat} {x : Piece} (h : xs[k]? = some x) : total (xs.take (k + 1)) = total (xs.take k) + x.bytes.length := by
  unfold total
  rw [List.take_add_one, h]
  simp
theorem total_le (xs : List Piece) (k : Nat) : total (xs.take k) ≤ total xs := by
  have h : total xs = total (xs.take k) + total (xs.drop k) := by
    conv => lhs; rw [← List.take_append_drop k xs]
    unfold total
    rw [List.map_append, List.sum_append]
  omega
theorem allB_succ {xs : List Piece} {k : Nat} {x : Piece} (h : xs[k]? = some x) : allB (xs.take (k + 1)) = allB (xs.take k) ++ x.bytes := by
  unfold allB
  rw [List.take_add_one, h]
  simp
theorem allB_length (xs : List Piece) : (allB xs).length = total xs := by unfold allB total; simp [List.length_flatMap]
set_option maxRecDepth 100000 in
set_option maxHeartbeats 2000000 in
theorem concat55 {b k cap : Nat} (xs : List Piece) (w : World) (hk : xs.length = k) (hk1 : k ≤ 100) (hcell : ∀ i x, xs[i]? = some x → w.cell? ⟨b, i, none⟩ = some (.slice x.adr x.bytes.length x.cap)) (hbs : ∀ x ∈ xs, Bs w w.heap.size x.adr x.cap x.bytes) (htot : total xs ≤ 1000000000) :
    Calls Tryd.prog 55 #[.slice (some ⟨b, 0, none⟩) k cap] w fun e w' => ∃ v, e = .returned v ∧ w'.ownsRow w.heap.size 5 1 v (allB xs).length (row8 (allB xs)) ∧ Below w.heap.size w w' := by
  obtain ⟨i5, hi, hz0, hz1, hz2⟩ := info_parts info5
  have HC := Lib.hid hcell
  have HBS := Lib.hid hbs
  have HK := Lib.hid hk
  clear hcell hbs hk
  go_enter Tryd.func55, Tryd.ntmps55
  go_wp2_with fail
  go_loop [3, 11] (fun s i => ∃ j : Nat, j ≤ k ∧ i = .int .i64 j ∧ s = .int .i64 ((total (xs.take j) : Nat) : Int)) (fun _ i => k - (intOf i).toNat)
  case atStart => exact ⟨0, Nat.zero_le _, rfl, rfl⟩
  case round =>
    obtain ⟨j, hj, rfl, rfl⟩ := hrel
    by_cases hlt : j < k
    · obtain ⟨x, hx⟩ : ∃ x, xs[j]? = some x := ⟨xs[j]'(by rw [HK.out]; exact hlt), List.getElem?_eq_getElem _⟩
      have c0 := HC.out j x hx
      have hs := total_succ hx
      have hl := total_le xs (j + 1)
      have HX := Lib.hid hx
      have hs1 : total (xs.take j) + x.bytes.length ≤ 1000000000 := by omega
      have HS : Hid (((total (xs.take (j + 1)) : Nat) : Int) = (total (xs.take j) : Int) + x.bytes.length) := Lib.hid (by omega)
      obtain ⟨T, hT⟩ : ∃ T, total (xs.take j) = T := ⟨_, rfl⟩
      rw [hT] at HS hs1 ⊢
      clear hx hs hl hT
      have hneg : ¬ ((T : Int) + x.bytes.length < 0) := by omega
      go_wp2_with fail
      go_round
      case rel => exact ⟨j + 1, by omega, by go_num, congrArg (Value.int .i64) HS.out.symm⟩
      case measure => simp [intOf]; omega
    · have e : j = k := by omega
      subst e
      have ht : xs.take j = xs := List.take_of_length_le (by rw [HK.out]; exact Nat.le_refl _)
      rw [ht]
      clear ht
      go_wp2_with fail
      refine (grow79 _ _ htot).mono ?_
      rintro e w1 ⟨v, rfl, ho, hb⟩
      have HO := Lib.hid ho
      have HB := Lib.hid hb
      clear ho hb
      go_wp2_with fail
      go_loopw [6, 27] (fun v i wr => ∃ r : Nat, r ≤ j ∧ i = .int .i64 r ∧ wr.ownsRow w.heap.size 5 1 v (total (xs.take r)) (row8 (allB (xs.take r))) ∧ Below w.heap.size w wr) (fun _ i _ => j - (intOf i).toNat)
      case atStart => exact ⟨0, Nat.zero_le _, rfl, HO.out, HB.out⟩
      case round =>
        clear HO HB
        obtain ⟨r, hr, rfl, hown, hB⟩ := hrel
        by_cases hrj : r < j
        · obtain ⟨x, hx⟩ : ∃ x, xs[r]? = some x := ⟨xs[r]'(by rw [HK.out]; exact hrj), List.getElem?_eq_getElem _⟩
          have c0 := HC.out r x hx
          have hlt0 := lt_of_cell c0
          have c1 := (hB.cell (p := ⟨b, r, none⟩) hlt0).trans c0
          have hbx := (HBS.out x (List.mem_of_getElem? hx)).below hB
          have hs := total_succ hx
          have hl := total_le xs (r + 1)
          have ha := allB_succ hx
          have hsz := hB.size
          have HOW := Lib.hid hown
          have HBB := Lib.hid hB
          have HS := Lib.hid hs
          have HA := Lib.hid ha
          have hs1 : total (xs.take r) + x.bytes.length ≤ 1000000000 := by omega
          obtain ⟨ax, cx, bx⟩ := x
          replace c1 : wr.cell? ⟨b, r, none⟩ = some (.slice ax bx.length cx) := c1
          replace hbx : Bs wr w.heap.size ax cx bx := hbx
          replace hs1 : total (xs.take r) + bx.length ≤ 1000000000 := hs1
          replace HS : Hid (total (xs.take (r + 1)) = total (xs.take r) + bx.length) := HS
          replace HA : Hid (allB (xs.take (r + 1)) = allB (xs.take r) ++ bx) := HA
          clear hx c0 hs hl ha hown hB
          cases ax with
          | none =>
            obtain ⟨rfl, rfl⟩ := hbx.nil rfl
            have E1 : Hid (total (xs.take (r + 1)) = total (xs.take r)) := Lib.hid (by rw [HS.out]; simp)
            have E2 : Hid (allB (xs.take (r + 1)) = allB (xs.take r)) := Lib.hid (by rw [HA.out]; simp)
            clear hbx
            go_wp2_with (at_builtin; refine wpList_append_own_none rfl _ _ 22 rfl w.heap.size 5 i5 1 Tryd.underlying22 hi _ _ _ rfl HOW.out rfl ?_)
            go_roundw
            case rel => exact ⟨r + 1, by omega, by go_num, by rw [E1.out, E2.out]; exact HOW.out, HBB.out⟩
            case measure => simp [intOf]; omega
          | some a =>
            have hd : ∀ j u, (row8 bx)[j]? = some u → wr.cell? (a.add j) = some u := by
              intro j u hu
              obtain ⟨y, hy, rfl⟩ := row8_inv hu
              obtain ⟨b', o', e, hb, hc⟩ := hbx.rd (by rintro rfl; simp at hy)
              cases e
              have hadd : (⟨b', o', none⟩ : Addr).add j = ⟨b', o' + j, none⟩ := by unfold Addr.add; split <;> simp_all
              rw [hadd]
              exact hc j y hy
            have HD := Lib.hid hd
            have HL := Lib.hid (row8_length bx)
            have H1 := Lib.hid (row8_one bx)
            obtain ⟨nb, hnb⟩ : ∃ nb, bx.length = nb := ⟨_, rfl⟩
            rw [hnb] at c1 hs1 HS HL
            clear hd hbx hnb
            go_wp2_with (at_builtin; refine wpList_append_own _ rfl _ _ 22 rfl w.heap.size 5 i5 (.int .u8 0) 1 1 Tryd.underlying22 hi hz0 hz1 hz2 rfl (by decide) _ _ _ rfl HOW.out a nb cx (row8 bx) rfl ?c1 HD.out H1.out ?c3 ?c4 ?c5 ?_)
            case c1 => rw [HL.out]; omega
            case c3 => unfold maxLen; omega
            case c4 => omega
            case c5 => exact hsz
            intro v' w7 hown' hgrow _
            have HR : Hid (w7.ownsRow w.heap.size 5 1 v' (total (xs.take (r + 1))) (row8 (allB (xs.take (r + 1))))) := Lib.hid (by rw [HS.out, HA.out, row8_append]; exact hown')
            have HBR := Lib.hid (Below.grown' HBB.out hgrow hsz (fun k hk => (HOW.out.lt k hk).1))
            clear hown' hgrow
            go_wp2_with fail
            go_roundw
            case rel => exact ⟨r + 1, by omega, by go_num, HR.out, HBR.out⟩
            case measure => simp [intOf]; omega
        · have e : r = j := by omega
          subst e
          have ht : xs.take r = xs := List.take_of_length_le (by rw [HK.out]; exact Nat.le_refl _)
          rw [ht] at hown
          rw [← allB_length] at hown
          have HR := Lib.hid hown
          have HBR := Lib.hid hB
          clear hown hB ht
          go_wp2_with fail
          go_ret
          exact ⟨_, rfl, HR.out, HBR.out⟩
end Go.Proofs.YtfolamkjlgpgmaaDoor
