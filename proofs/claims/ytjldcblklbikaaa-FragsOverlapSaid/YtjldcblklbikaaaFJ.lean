/- Several texts in one: FJ, FK, FL. No condition beyond those that each part names. -/
import Derived.Test.YtjldcblklbikaaaFI
import Derived.LaidEqlPtr
/- A datagram spoilt; is it this one; is it the first part; how many, till when: the walks. No condition but that the pool is one. -/
namespace Go.Proofs.Ytjldcblklbikaaa
open Go.RowKit
set_option linter.unusedVariables false
set_option linter.unusedSimpArgs false
set_option maxRecDepth 100000 in
set_option maxHeartbeats 400000 in
theorem spoil37 {d : Nat} {C : Array Value} (w : World) (h : w.heap[d]? = some (.cells C 75 (0, 0))) (hC : C.size = 36) :
    Calls Try.prog 37 #[.pointer (some ⟨d, 0, none⟩)] w fun e w' => e = .returned (.tuple #[]) ∧ Turned d (.cells ((C.setIfInBounds 34 (.bool true)).setIfInBounds 35 (.slice none 0 0)) 75 (0, 0)) w w' := by
  have c34 := cell_blk h 34
  have c35 := cell_blk h 35
  have f34 := frozen_blk h 34
  have f35 := frozen_blk h 35
  rw [Array.getElem?_eq_getElem (by omega)] at c34 c35
  have t1 := Turned.setCell h 34 (.bool true)
  have t2 := t1.trans (Turned.setCell (t1.get (lt_of_blk h)) 35 (.slice none 0 0))
  have HT := Lib.hid t2
  generalize C[34] = v34 at *
  generalize C[35] = v35 at *
  clear h t1 t2
  go_enter Try.func37, Try.ntmps37
  go_wp2_with fail
  go_end0
  exact ⟨rfl, HT.out⟩
set_option maxRecDepth 100000 in
set_option maxHeartbeats 400000 in
theorem clos43 {p a b : Nat} {ca cb : Array Value} (w : World) (h : w.cell? ⟨p, 0, none⟩ = some (.pointer (some ⟨b, 0, none⟩))) (ha : w.heap[a]? = some (.cells ca 75 (0, 0))) (hb : w.heap[b]? = some (.cells cb 75 (0, 0))) :
    Calls Try.prog 43 #[.pointer (some ⟨a, 0, none⟩), .pointer (some ⟨p, 0, none⟩)] w (BoolPost (a == b) w) := by
  obtain ⟨j, hj⟩ : ∃ j, Try.prog.info? 75 = some j := Option.isSome_iff_exists.1 (by kernel_rfl)
  have hs : j.size = 36 := by
    have : (Try.prog.info? 75).map (·.size) = some 36 := by kernel_rfl
    rw [hj] at this; simpa using this
  have E : (binOp .eql 71 (.pointer (some ⟨a, 0, none⟩)) (.pointer (some ⟨b, 0, none⟩))).run Try.prog w = .ok (.bool (a == b)) w := by
    by_cases e : a = b
    · subst e
      rw [run_eql_ptr_same w _ Try.underlying71 hj]; simp
    · rw [run_eql_ptr_other w Try.underlying71 hj (by omega) (fun x => e (by cases x; rfl)) ha hb]; simp [e]
  clear ha hb hj hs
  go_enter Try.func43, Try.ntmps43
  go_wp2_with fail
  go_ret
  exact ⟨rfl, Below.refl _ _⟩
end Go.Proofs.Ytjldcblklbikaaa

/- A new pool; how many datagrams; is it the first part: the walks. No condition but that the pool is one. -/
namespace Go.Proofs.Ytjldcblklbikaaa
open Go.RowKit
set_option linter.unusedVariables false
set_option linter.unusedSimpArgs false
set_option maxRecDepth 100000 in
set_option maxHeartbeats 400000 in
theorem clos30 {P : List Value} {x : Pk} {A : Option Addr} {c : Nat} (w : World) (h : PkAt P x A c) :
    Calls Try.prog 30 #[.agg P.toArray] w (BoolPost (x.off == 0) w) := by
  have b := heap_alloc_new w (.cells P.toArray 43)
  have c36 := box_cell b (h.tail 4)
  obtain ⟨q, hq⟩ : ∃ q, q = x.off := ⟨_, rfl⟩
  rw [← hq] at c36 ⊢
  have E : Hid (((q : Int) == 0) = (q == 0)) := Lib.hid (by rw [Bool.eq_iff_iff]; simp)
  clear h hq b
  go_enter Try.func30, Try.ntmps30
  go_wp2_with fail
  go_ret
  refine ⟨?_, (Below.refl _ _).alloc (Nat.le_refl _) _⟩
  rw [← E.out]
  rfl
set_option maxRecDepth 100000 in
set_option maxHeartbeats 400000 in
theorem new10 (w : World) : Calls Try.prog 10 #[] w fun e w' => e = .returned (.pointer (some ⟨w.heap.size, 0, none⟩)) ∧ PoolAt w' w.heap.size (.slice none 0 0) [] ∧ Below w.heap.size w w' ∧ w'.heap.size = w.heap.size + 1 := by
  go_enter Try.func10, Try.ntmps10
  go_wp2_with fail
  go_ret
  refine ⟨rfl, ⟨heap_alloc_new w _, World.ownsRow_nil _ _ _ _, by simp, List.Pairwise.nil, List.Pairwise.nil, by simp⟩, (Below.refl _ _).alloc (Nat.le_refl _) _, by simp⟩
set_option maxRecDepth 100000 in
set_option maxHeartbeats 400000 in
theorem len20 {pb : Nat} {rv : Value} {D : List Dg} (w : World) (h : PoolAt w pb rv D) :
    Calls Try.prog 20 #[.pointer (some ⟨pb, 0, none⟩)] w fun e w' => e = .returned (.int .i64 (D.length : Int)) ∧ w = w' := by
  obtain ⟨A, c, rfl, hrow⟩ := h.ptrs
  have c0 : w.cell? ⟨pb, 0, none⟩ = some (.slice A D.length c) := by rw [cell_blk h.blk]; rfl
  generalize D.length = n at *
  clear h hrow
  go_enter Try.func20, Try.ntmps20
  go_wp2_with fail
  go_ret
  exact ⟨rfl, rfl⟩
end Go.Proofs.Ytjldcblklbikaaa

/- Till when: the walk. No condition but that the pool is one. -/
namespace Go.Proofs.Ytjldcblklbikaaa
open Go.RowKit
set_option linter.unusedVariables false
set_option linter.unusedSimpArgs false
def nextN (m : Nat) (l : List Nat) : Nat := l.foldl min m
theorem nextN_le : ∀ (l : List Nat) (m : Nat), nextN m l ≤ m
  | [], m => Nat.le_refl _
  | x :: l, m => Nat.le_trans (nextN_le l (min m x)) (Nat.min_le_left _ _)
theorem nextN_take {l : List Nat} {m k x : Nat} (h : l[k]? = some x) : nextN m (l.take (k + 1)) = min (nextN m (l.take k)) x := by
  have e : l.take (k + 1) = l.take k ++ [x] := by rw [List.take_add_one, h]; rfl
  rw [e]; simp [nextN]
set_option maxRecDepth 100000 in
set_option maxHeartbeats 400000 in
theorem next21 {pb : Nat} {rv : Value} {D : List Dg} (w : World) (h : PoolAt w pb rv D) :
    Calls Try.prog 21 #[.pointer (some ⟨pb, 0, none⟩)] w fun e w' => e = .returned (.int .u64 (nextN 9223372036854775807 (D.map (·.over)) : Int)) ∧ w = w' := by
  obtain ⟨A, c, rfl, hrow⟩ := h.ptrs
  have c0 : w.cell? ⟨pb, 0, none⟩ = some (.slice A D.length c) := by rw [cell_blk h.blk]; rfl
  have HROW := Lib.hid hrow
  have HD := Lib.hid h.each
  have hm := h.four
  obtain ⟨n, hn⟩ : ∃ n, D.length = n := ⟨_, rfl⟩
  have HN := Lib.hid hn
  rw [hn] at c0 hm
  clear h hrow hn
  go_enter Try.func21, Try.ntmps21
  go_wp2_with fail
  go_loopw [3, 14] (fun z i wr => ∃ k : Nat, k ≤ n ∧ i = .int .i64 k ∧ z = .int .u64 (nextN 9223372036854775807 ((D.map (·.over)).take k) : Int) ∧ w = wr) (fun _ i _ => n - (intOf i).toNat)
  case atStart => exact ⟨0, Nat.zero_le _, rfl, rfl, rfl⟩
  case round =>
    obtain ⟨k, hk, rfl, rfl, rfl⟩ := hrel
    by_cases hlt : k < n
    · obtain ⟨x, hx⟩ : ∃ x, D[k]? = some x := ⟨D[k]'(by rw [HN.out]; exact hlt), List.getElem?_eq_getElem _⟩
      obtain ⟨g, rfl, hg, hc⟩ := HROW.out (by rintro rfl; simp at hx)
      have c1 := hc k x hx
      have c2 := Dg.tail (HD.out x (List.mem_of_getElem? hx)) 0
      have HE := Lib.hid (nextN_take (m := 9223372036854775807) (l := D.map (·.over)) (k := k) (x := x.over) (by rw [List.getElem?_map, hx]; rfl))
      obtain ⟨xb, hxb⟩ : ∃ b, b = x.blk := ⟨_, rfl⟩
      have hpx : ptrTo x = .pointer (some ⟨xb, 0, none⟩) := by rw [hxb]; rfl
      rw [hpx] at c1
      rw [← hxb] at c2
      simp only [List.getElem?_cons_zero, Nat.add_zero] at c2
      obtain ⟨o, ho⟩ : ∃ o, o = x.over := ⟨_, rfl⟩
      rw [← ho] at c2 HE
      obtain ⟨m, hmm⟩ : ∃ m, m = nextN 9223372036854775807 ((D.map (·.over)).take k) := ⟨_, rfl⟩
      rw [← hmm] at HE ⊢
      clear hx hc hxb hpx ho hmm hg
      by_cases hlo : o < m
      · have t : (o : Int) < (m : Int) := by omega
        have HE2 := Lib.hid (HE.out.trans (Nat.min_eq_right (by omega)))
        clear hlo
        go_wp2_with fail
        go_roundw
        case rel => exact ⟨k + 1, by omega, by go_num, by rw [HE2.out], (by first | trivial | rfl)⟩
        case measure => simp [intOf]; omega
      · have t : ¬ ((o : Int) < (m : Int)) := by omega
        have HE2 := Lib.hid (HE.out.trans (Nat.min_eq_left (by omega)))
        clear hlo
        go_wp2_with fail
        go_roundw
        case rel => exact ⟨k + 1, by omega, by go_num, by rw [HE2.out], (by first | trivial | rfl)⟩
        case measure => simp [intOf]; omega
    · obtain rfl : k = n := by omega
      have HL : Hid ((D.map (·.over)).take k = D.map (·.over)) := Lib.hid (by rw [← HN.out]; exact List.take_of_length_le (by simp))
      rw [HL.out]
      clear hlt
      go_wp2_with fail
      go_ret
      exact ⟨rfl, rfl⟩
end Go.Proofs.Ytjldcblklbikaaa
