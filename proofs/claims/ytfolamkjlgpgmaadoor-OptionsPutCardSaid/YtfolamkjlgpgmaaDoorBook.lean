/- A book of lists of bytes: one list more. No condition but that the lists are few. -/
import Derived.Test.YtfolamkjlgpgmaaDoorStrips
import Derived.Test.YtfolamkjlgpgmaaDoorSpans
namespace Go.Proofs.YtfolamkjlgpgmaaDoor
open Go.RowKit
set_option linter.unusedVariables false
set_option linter.unusedSimpArgs false
/-- the book at kb holds these spans -/
def BookAt (w : World) (kb : Nat) (S : List Span) : Prop := ∃ v, w.heap[kb]? = some (.cells #[v] 33 (0, 0)) ∧ w.ownsRow kb 87 1 v S.length (rowB S)
theorem BookAt.step {w w' : World} {kb : Nat} {S : List Span} (h : BookAt w kb S) (hb : Below w.heap.size w w') : BookAt w' kb S := by
  obtain ⟨v, h1, h2⟩ := h
  exact ⟨v, (hb.block kb (lt_of_blk h1)).trans h1, own_below h2 hb⟩
theorem info87 : (Tryd.prog.info? 87).map (fun i => (i.zero, i.size, i.bytes)) = some (some .nilIface, 1, 16) := by kernel_rfl
set_option maxRecDepth 100000 in
set_option maxHeartbeats 1000000 in
theorem next54 {kb n c : Nat} {q : Option Addr} (w : World) (h : w.heap[kb]? = some (.cells #[.slice q n c] 33 (0, 0))) (hn : n ≤ 1000000000) :
    Calls Tryd.prog 54 #[.pointer (some ⟨kb, 0, none⟩)] w fun e w' => e = .returned (.int .i64 (1 + (n : Int))) ∧ w = w' := by
  have c0 := cell_blk h 0
  simp only [List.getElem?_toArray, List.getElem?_cons_zero] at c0
  go_enter Tryd.func54, Tryd.ntmps54
  go_wp2_with fail
  go_ret
  exact ⟨rfl, rfl⟩
theorem own_blk {w : World} {B e s n kb T : Nat} {v : Value} {xs : List Value} {cs : Array Value} {z : Nat × Nat} (h : w.ownsRow B e s v n xs) (k : w.heap[kb]? = some (.cells cs T z)) (hne : e ≠ T) : v.ownBlock = none ∨ v.ownBlock ≠ some kb := by
  rcases h.2 with ⟨rfl, _⟩ | ⟨g, cap, cur, rfl, hb, hg, _⟩
  · exact .inl rfl
  · right
    intro x
    simp only [Value.ownBlock, Option.some.injEq] at x
    subst x
    rw [hg] at k
    cases k
    exact hne rfl
def BookPost (kb : Nat) (S : List Span) (w : World) (e : Ending) (w' : World) : Prop := e = .returned (.tuple #[]) ∧ BookAt w' kb S ∧ Below kb w w'
set_option maxRecDepth 100000 in
set_option maxHeartbeats 1000000 in
theorem bytes14 {kb n c : Nat} {A : Option Addr} {S : List Span} (w : World) (h : BookAt w kb S) (hS : S.length ≤ 1000000) :
    Calls Tryd.prog 14 #[.pointer (some ⟨kb, 0, none⟩), .slice A n c] w (BookPost kb (S ++ [⟨A, n, c⟩]) w) := by
  obtain ⟨i87, hi, hz0, hz1, hz2⟩ := info_parts info87
  obtain ⟨v, h1, h2⟩ := h
  obtain ⟨q, cq, rfl, hq⟩ := own_slice2 h2
  have HNX := Lib.hid (next54 w h1 (by omega))
  have c0 := cell_blk h1 0
  simp only [List.getElem?_toArray, List.getElem?_cons_zero] at c0
  obtain ⟨m, hm⟩ : ∃ m, S.length = m := ⟨_, rfl⟩
  have HM := Lib.hid hm
  rw [hm] at HNX c0 h1 h2 hS hq
  have H1 := Lib.hid h1
  have H2 := Lib.hid h2
  have hkb := lt_of_blk h1
  clear hm h1 h2
  go_enter Tryd.func14, Tryd.ntmps14
  go_wp2_with fail
  refine (HNX.out).mono ?_
  rintro e w1 ⟨rfl, rfl⟩
  go_wp2_with (at_builtin; refine wpList_append_own _ rfl _ _ 31 rfl kb 87 i87 .nilIface 1 16 Tryd.underlying31 hi hz0 hz1 hz2 rfl (by decide) _ _ _ rfl (H2.out.alloc _) ⟨w.heap.size, 0, none⟩ 1 1 [leafV m ⟨A, n, c⟩] rfl rfl ?c2 ?c1 ?c3 ?c4 ?c5 ?_)
  case c2 =>
    intro j u hj
    rw [Addr.add_mid, Nat.zero_add]
    have c := cell_blk (heap_alloc_new w (.cells #[leafV m ⟨A, n, c⟩] 87)) j
    exact c.trans (by simpa using hj)
  case c1 => intro u hu; rw [List.mem_singleton] at hu; subst hu; rfl
  case c3 => unfold maxLen; omega
  case c4 => omega
  case c5 => simp; omega
  intro v' w7 ho hg _
  have hal : Below w.heap.size w (w.alloc (.cells #[leafV m ⟨A, n, c⟩] 87)) := (Below.refl _ _).alloc (Nat.le_refl _) _
  have hb1 : w7.heap[kb]? = some (.cells #[.slice q m cq] 33 (0, 0)) := by
    refine (hg.block kb (by simp; omega) (fun e => ?_)).trans ((hal.block kb hkb).trans H1.out)
    rcases own_blk H2.out H1.out (by decide) with h | h
    · rw [h] at e; cases e
    · exact h e.symm
  have d0 := cell_blk hb1 0
  simp only [List.getElem?_toArray, List.getElem?_cons_zero] at d0
  have f0 := frozen_blk hb1 0
  have hB7 : Below kb w w7 := Below.grown' (hal.mono (by omega)) hg (by simp; omega) (fun k hk => (H2.out.lt k hk).1)
  obtain ⟨q2, cq2, rfl, -⟩ := own_slice2 ho
  have t := Turned.setCell hb1 0 (.slice q2 (m + 1) cq2)
  have HT := Lib.hid t
  have HO := Lib.hid ho
  have HB7 := Lib.hid hB7
  have HB1 := Lib.hid hb1
  clear hg ho hal t hB7 hb1
  go_wp2_with fail
  go_end0
  have hm := HM.out
  refine ⟨rfl, ⟨_, HT.out.get (lt_of_blk HB1.out), ?_⟩, HB7.out.trans (HT.out.below (Nat.le_refl _))⟩
  have ho := HO.out.kept HT.out.grown (own_blk HO.out HB1.out (by decide))
  rw [rowB_snoc, List.length_append, List.length_singleton, hm]
  exact ho
def BookMany (kb : Nat) (S : List Span) (w : World) (e : Ending) (w' : World) : Prop := e = .returned (.tuple #[]) ∧ BookAt w' kb S ∧ Below kb w w'
set_option maxRecDepth 100000 in
set_option maxHeartbeats 1000000 in
theorem options15 {kb c : Nat} {A : Option Addr} {S : List Span} {M : List Opt} (w : World) (h : BookAt w kb S) (hM : OptsRd w kb A M) (hS : S.length + M.length ≤ 1000000) :
    Calls Tryd.prog 15 #[.pointer (some ⟨kb, 0, none⟩), .slice A M.length c] w (BookMany kb (S ++ M.map spanOf) w) := by
  obtain ⟨m, hm⟩ : ∃ m, M.length = m := ⟨_, rfl⟩
  have HM := Lib.hid hm
  have HO := Lib.hid hM
  have HB := Lib.hid h
  rw [hm] at hS ⊢
  clear h hM hm
  go_enter Tryd.func15, Tryd.ntmps15
  go_wp2_with fail
  go_loopw [4] (fun i wr => ∃ k : Nat, k ≤ m ∧ i = .int .i64 k ∧ BookAt wr kb (S ++ (M.take k).map spanOf) ∧ Below kb w wr) (fun i _ => m - (intOf i).toNat)
  case atStart => exact ⟨0, Nat.zero_le _, rfl, by simpa using HB.out, Below.refl _ _⟩
  case round =>
    obtain ⟨k, hk, rfl, hB, hW⟩ := hrel
    by_cases hlt : k < m
    · obtain ⟨x, hx⟩ : ∃ x, M[k]? = some x := ⟨M[k]'(by rw [HM.out]; exact hlt), List.getElem?_eq_getElem _⟩
      have hO := HO.out.below hW
      obtain ⟨b, o, rfl, hb, hc⟩ := hO.at_ (by rintro rfl; simp at hx)
      obtain ⟨c0, c1⟩ := hc k x hx
      have hlen : (S ++ (M.take k).map spanOf).length ≤ 1000000 := by simp only [List.length_append, List.length_map, List.length_take]; omega
      have HBY := Lib.hid (bytes14 (n := x.data.length) (c := x.cap) (A := x.adr) wr hB hlen)
      have HE : Hid (S ++ (M.take (k + 1)).map spanOf = S ++ (M.take k).map spanOf ++ [⟨x.adr, x.data.length, x.cap⟩]) := Lib.hid (by rw [List.take_add_one, hx]; simp [spanOf])
      have HW := Lib.hid hW
      clear hx hO hc c0 hB hW hlen
      go_wp2_with fail
      refine (HBY.out).mono ?_
      rintro e w1 ⟨rfl, h1, h2⟩
      have H1 := Lib.hid h1
      have H2 := Lib.hid h2
      clear h1 h2 HBY
      go_wp2_with fail
      go_roundw
      case rel => exact ⟨k + 1, by omega, by go_num, by rw [HE.out]; exact H1.out, HW.out.trans H2.out⟩
      case measure => simp [intOf]; omega
    · have e : M.take k = M := List.take_of_length_le (by rw [HM.out]; omega)
      rw [e] at hB
      have H1 := Lib.hid hB
      have H2 := Lib.hid hW
      clear hB hW
      go_wp2_with fail
      go_end0
      exact ⟨rfl, H1.out, H2.out⟩
end Go.Proofs.YtfolamkjlgpgmaaDoor
