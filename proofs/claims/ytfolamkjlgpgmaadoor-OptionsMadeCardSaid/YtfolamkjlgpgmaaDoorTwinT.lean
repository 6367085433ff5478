/- A twin of texts, and is it as it was made: the walks. No condition but that the texts are few. -/
import Derived.Test.YtfolamkjlgpgmaaDoorTwins8
import Derived.Test.YtfolamkjlgpgmaaDoorDoms
namespace Go.Proofs.YtfolamkjlgpgmaaDoor
open Go.RowKit
set_option linter.unusedVariables false
set_option linter.unusedSimpArgs false
def strangeT : ByteArray := ⟨#[115, 116, 114, 97, 110, 103, 101]⟩
def twinT (l : List ByteArray) : List ByteArray := l ++ List.replicate 4 strangeT
def twinTT (l : List ByteArray) (k : Nat) : List ByteArray := (twinT l).take k ++ List.replicate (l.length + 4 - k) ⟨#[]⟩
theorem twinT_length (l : List ByteArray) : (twinT l).length = l.length + 4 := by simp [twinT]
theorem twinTT_set {l : List ByteArray} {k : Nat} {x : ByteArray} (hk : k < l.length + 4) (hx : (twinT l)[k]? = some x) : (rowT (twinTT l k)).setIfInBounds k (.string x) = rowT (twinTT l (k + 1)) := by
  unfold rowT
  rw [List.setIfInBounds_toArray]
  congr 1
  have h1 : ((twinT l).take k).length = k := by rw [List.length_take, twinT_length]; omega
  have h2 : List.replicate (l.length + 4 - k) (⟨#[]⟩ : ByteArray) = ⟨#[]⟩ :: List.replicate (l.length + 4 - (k + 1)) ⟨#[]⟩ := by
    rw [show l.length + 4 - k = (l.length + 4 - (k + 1)) + 1 by omega, List.replicate_succ]
  unfold twinTT
  rw [List.take_add_one, hx, h2, List.map_append, List.map_append]
  have h3 : (((twinT l).take k).map Value.string).length = k := by rw [List.length_map]; exact h1
  rw [List.set_append_right _ _ (by omega), h3, Nat.sub_self]
  simp
theorem twinTT_get {l : List ByteArray} {k : Nat} (hk : k < l.length + 4) : (rowT (twinTT l k))[k]? = some (.string ⟨#[]⟩) := by
  have h1 : ((twinT l).take k).length = k := by rw [List.length_take, twinT_length]; omega
  refine rowT_get ?_
  unfold twinTT
  rw [List.getElem?_append_right (by omega), h1, Nat.sub_self, List.getElem?_replicate, if_pos (by omega)]
theorem twinTT_all {l : List ByteArray} : twinTT l (l.length + 4) = twinT l := by
  unfold twinTT
  rw [Nat.sub_self, List.take_of_length_le (by rw [twinT_length]; exact Nat.le_refl _)]
  simp
structure TwTI (w W : World) (g : Nat) (l : List ByteArray) (k : Nat) : Prop where
  row : W.heap[g]? = some (.cells (rowT (twinTT l k)) 9 (0, 0))
  below : Below g w W
theorem TwTI.one {w W : World} {g k : Nat} {x : ByteArray} {l : List ByteArray} (I : TwTI w W g l k) (hk : k < l.length + 4) (hx : (twinT l)[k]? = some x) : TwTI w (W.setCell ⟨g, k, none⟩ (.string x)) g l (k + 1) := by
  have t := Turned.setCell I.row k (.string x)
  rw [twinTT_set hk hx] at t
  exact ⟨t.get (lt_of_blk I.row), I.below.trans (t.below (Nat.le_refl _))⟩
theorem TwTI.two {w W : World} {g k : Nat} {x : ByteArray} {y : Value} {l : List ByteArray} (I : TwTI w W g l k) (hk : k < l.length + 4) (hx : (twinT l)[k]? = some x) : TwTI w ((W.setCell ⟨g, k, none⟩ y).setCell ⟨g, k, none⟩ (.string x)) g l (k + 1) := by
  have t0 := Turned.setCell I.row k y
  have t := t0.trans (Turned.setCell (t0.get (lt_of_blk I.row)) k (.string x))
  rw [show ((rowT (twinTT l k)).setIfInBounds k y).setIfInBounds k (.string x) = (rowT (twinTT l k)).setIfInBounds k (.string x) by
    apply Array.ext_getElem?; intro j; simp only [Array.getElem?_setIfInBounds, Array.size_setIfInBounds]; by_cases h : k = j <;> simp [h], twinTT_set hk hx] at t
  exact ⟨t.get (lt_of_blk I.row), I.below.trans (t.below (Nat.le_refl _))⟩
theorem info9t : (Tryd.prog.info? 9).map (fun i => (i.zero, i.size, i.bytes)) = some (some (.string ⟨#[]⟩), 1, 16) := by kernel_rfl
theorem make_texts (z : Nat) (W : World) (hz : z ≤ 1000000) : (Instr.makeSlice 58 (.int .i64 (z : Int)) (.int .i64 (z : Int))).run Tryd.prog W = .ok (.slice (some ⟨W.heap.size, 0, none⟩) z z) (W.alloc (.cells (rowT (List.replicate z ⟨#[]⟩)) 9)) := by
  obtain ⟨i9, hi, hz0, hz1, hz2⟩ := info_parts info9t
  have h := run_make (P := Tryd.prog) W 58 9 i9 (.string ⟨#[]⟩) Tryd.underlying58 hi hz0 .i64 .i64 (z : Int) (z : Int) (by omega) (by omega) (by rw [hz2]; omega) (by omega)
  rw [h, hz1]
  have e : madeCells (Value.string ⟨#[]⟩).cells (((z : Int)).toNat * 1) = rowT (List.replicate z ⟨#[]⟩) := by
    apply Array.ext_getElem?
    intro i
    rw [Int.toNat_natCast]
    by_cases hi : i < z
    · rw [rowT_get (p := ⟨#[]⟩) (by rw [List.getElem?_replicate, if_pos hi])]
      simp [madeCells, Value.cells, hi, Nat.mod_one]
    · rw [Array.getElem?_eq_none (by simp [madeCells]; omega), Array.getElem?_eq_none (by simp [rowT]; omega)]
  rw [e]
  simp
def TwinTPost (l : List ByteArray) (w : World) (e : Ending) (w' : World) : Prop := e = .returned (.slice (some ⟨w.heap.size, 0, none⟩) l.length (l.length + 4)) ∧ w'.heap[w.heap.size]? = some (.cells (rowT (twinT l)) 9 (0, 0)) ∧ Below w.heap.size w w'
set_option maxRecDepth 100000 in
set_option maxHeartbeats 2000000 in
theorem twin63 {A : Option Addr} {c : Nat} {l : List ByteArray} (w : World) (h : DomsAt w w.heap.size A l) :
    Calls Tryd.prog 63 #[.slice A l.length c, .string strangeT] w (TwinTPost l w) := by
  have hl := h.many
  have HRD := Lib.hid h.at_
  obtain ⟨n, hn⟩ : ∃ n, l.length = n := ⟨_, rfl⟩
  have HN := Lib.hid hn
  rw [hn] at hl ⊢
  clear h hn
  have hmk : ∀ W : World, (Instr.makeSlice 58 (.int .i64 ((n : Int) + 4)) (.int .i64 ((n : Int) + 4))).run Tryd.prog W = .ok (.slice (some ⟨W.heap.size, 0, none⟩) (n + 4) (n + 4)) (W.alloc (.cells (rowT (List.replicate (n + 4) ⟨#[]⟩)) 9)) := fun W => make_texts (n + 4) W (by omega)
  have I0 : TwTI w (w.alloc (.cells (rowT (List.replicate (n + 4) ⟨#[]⟩)) 9)) w.heap.size l 0 := ⟨by rw [heap_alloc_new]; unfold twinTT; rw [HN.out]; rfl, (Below.refl _ _).alloc (Nat.le_refl _) _⟩
  have HI := Lib.hid I0
  clear I0
  go_enter Tryd.func63, Tryd.ntmps63
  go_wp2_with fail
  obtain ⟨g, hg⟩ : ∃ g, g = w.heap.size := ⟨_, rfl⟩
  rw [← hg] at HI ⊢
  have NG := Lib.hid hg; clear hg
  go_loopw [6] (fun i wr => ∃ k : Nat, k ≤ n + 4 ∧ i = .int .i64 k ∧ TwTI w wr g l k) (fun i _ => n + 4 - (intOf i).toNat)
  case atStart => exact ⟨0, by omega, rfl, HI.out⟩
  case round =>
    clear HI
    obtain ⟨k, hk, rfl, I⟩ := hrel
    by_cases hlt : k < n + 4
    · have c0 := cell_blk I.row k
      rw [twinTT_get (by rw [HN.out]; exact hlt)] at c0
      have f0 := frozen_blk I.row k
      have HI := Lib.hid I
      clear I
      have t1 : (k : Int) < (n : Int) + 4 := by omega
      by_cases hln : k < n
      · obtain ⟨x, hx⟩ : ∃ x, l[k]? = some x := ⟨l[k]'(by rw [HN.out]; exact hln), List.getElem?_eq_getElem _⟩
        obtain ⟨b, o, rfl, hb, hc⟩ := HRD.out (by rintro rfl; simp at hx)
        have c1 : wr.cell? ⟨b, o + k, none⟩ = some (.string x) := (HI.out.below.cell (p := ⟨b, o + k, none⟩) (by rw [NG.out]; exact hb)).trans (hc k x hx)
        have hbg : b ≠ g := by rw [NG.out]; omega
        have HZ : Hid (TwTI w ((wr.setCell ⟨g, k, none⟩ (.string strangeT)).setCell ⟨g, k, none⟩ (.string x)) g l (k + 1)) := Lib.hid (HI.out.two (by rw [HN.out]; exact hlt) (by unfold twinT; rw [List.getElem?_append_left (by rw [HN.out]; exact hln)]; exact hx))
        clear hx hc
        go_wp2_with fail
        go_roundw
        case rel => exact ⟨k + 1, by omega, by go_num, HZ.out⟩
        case measure => simp [intOf]; omega
      · have HZ : Hid (TwTI w (wr.setCell ⟨g, k, none⟩ (.string strangeT)) g l (k + 1)) := Lib.hid (HI.out.one (by rw [HN.out]; exact hlt) (by unfold twinT; rw [List.getElem?_append_right (by rw [HN.out]; omega), List.getElem?_replicate, if_pos (by rw [HN.out]; omega)]))
        go_wp2_with fail
        go_roundw
        case rel => exact ⟨k + 1, by omega, by go_num, HZ.out⟩
        case measure => simp [intOf]; omega
    · have e : k = n + 4 := by omega
      have HR : Hid (wr.heap[g]? = some (.cells (rowT (twinT l)) 9 (0, 0))) := Lib.hid (by rw [I.row, e, ← HN.out, twinTT_all])
      have HB := Lib.hid I.below
      have t1 : ¬ ((k : Int) < (n : Int) + 4) := by omega
      clear I
      go_wp2_with fail
      go_ret
      exact ⟨by rw [← NG.out, HN.out]; rfl, by rw [← NG.out]; exact HR.out, by rw [← NG.out]; exact HB.out⟩
set_option maxRecDepth 100000 in
set_option maxHeartbeats 1000000 in
theorem twin28 {A : Option Addr} {c : Nat} {l : List ByteArray} (w : World) (h : DomsAt w w.heap.size A l) :
    Calls Tryd.prog 28 #[.slice A l.length c] w (TwinTPost l w) := by
  have HT := Lib.hid (twin63 (c := c) w h)
  obtain ⟨n, hn⟩ : ∃ n, l.length = n := ⟨_, rfl⟩
  have HN := Lib.hid hn
  rw [hn] at HT ⊢
  unfold strangeT at HT
  clear h hn
  go_enter Tryd.func28, Tryd.ntmps28
  go_wp2_with fail
  refine (HT.out).mono ?_
  rintro e w1 ⟨rfl, h1, h2⟩
  have H1 := Lib.hid h1
  have H2 := Lib.hid h2
  clear h1 h2 HT
  rw [HN.out]
  go_wp2_with fail
  go_ret
  exact ⟨by rw [HN.out]; rfl, H1.out, H2.out⟩
set_option maxRecDepth 100000 in
set_option maxHeartbeats 1000000 in
theorem same84 {A A2 : Option Addr} {c c2 B : Nat} {l : List ByteArray} (w : World) (h : DomsAt w B A l) (h2 : DomsAt w B A2 l) :
    Calls Tryd.prog 84 #[.slice A l.length c, .slice A2 l.length c2] w (SamePost true w) := by
  have H1 := Lib.hid h.at_
  have H2 := Lib.hid h2.at_
  have hl := h.many
  obtain ⟨n, hn⟩ : ∃ n, l.length = n := ⟨_, rfl⟩
  have HN := Lib.hid hn
  rw [hn] at hl ⊢
  clear h h2 hn
  go_enter Tryd.func84, Tryd.ntmps84
  go_wp2_with fail
  go_loopw [5] (fun i wr => ∃ k j : Nat, k ≤ n ∧ i = .int .i64 k ∧ wr = w.drewN j) (fun i _ => n - (intOf i).toNat)
  case atStart => exact ⟨0, 0, Nat.zero_le _, rfl, rfl⟩
  case round =>
    obtain ⟨k, j, hk, rfl, rfl⟩ := hrel
    by_cases hlt : k < n
    · obtain ⟨x, hx⟩ : ∃ x, l[k]? = some x := ⟨l[k]'(by rw [HN.out]; exact hlt), List.getElem?_eq_getElem _⟩
      obtain ⟨b, o, rfl, hb, hc⟩ := H1.out (by rintro rfl; simp at hx)
      obtain ⟨b2, o2, rfl, hb2, hc2⟩ := H2.out (by rintro rfl; simp at hx)
      have c1 := hc k x hx
      have d1 := hc2 k x hx
      have t1 : decide ((k : Int) < (n : Int)) = true := by simp; omega
      clear hx hc hc2
      go_wp2_with fail
      go_quiet (fail)
      go_wp2_with fail
      go_roundw
      case rel => exact ⟨k + 1, _, by omega, by go_num, rfl⟩
      case measure => simp [intOf]; omega
    · obtain rfl : k = n := by omega
      have t1 : decide ((k : Int) < (k : Int)) = false := by simp
      go_wp2_with fail
      go_ret
      exact ⟨rfl, _, rfl⟩
theorem twinT_at {w : World} {g B : Nat} {l : List ByteArray} (h : w.heap[g]? = some (.cells (rowT (twinT l)) 9 (0, 0))) (hs : ∀ s ∈ l, s.size ≤ 4000) (hm : l.length ≤ 4000) (hB : g < B) : DomsAt w B (some ⟨g, 0, none⟩) l := by
  refine ⟨fun _ => ⟨g, 0, rfl, hB, fun k x hx => ?_⟩, hs, hm⟩
  rw [Nat.zero_add, cell_blk h]
  exact rowT_get (by unfold twinT; rw [List.getElem?_append_left (List.getElem?_eq_some_iff.1 hx).1]; exact hx)
theorem twinT_room {w : World} {g i : Nat} {l : List ByteArray} (h : w.heap[g]? = some (.cells (rowT (twinT l)) 9 (0, 0))) (hi : i < 4) : w.cell? ⟨g, l.length + i, none⟩ = some (.string strangeT) := by
  rw [cell_blk h]
  exact rowT_get (by unfold twinT; rw [List.getElem?_append_right (by omega), List.getElem?_replicate, if_pos (by omega)])
set_option maxRecDepth 100000 in
set_option maxHeartbeats 1000000 in
theorem left73 {A : Option Addr} {c g : Nat} {l : List ByteArray} (w : World) (h : DomsAt w w.heap.size A l) (hg : w.heap[g]? = some (.cells (rowT (twinT l)) 9 (0, 0))) :
    Calls Tryd.prog 73 #[.slice (some ⟨g, 0, none⟩) l.length (l.length + 4), .slice A l.length c, .string strangeT] w (SamePost true w) := by
  have HS := Lib.hid (same84 (c := l.length + 4) (c2 := c) w (twinT_at hg h.size h.many (lt_of_blk hg)) h)
  have hl := h.many
  have HR := Lib.hid (fun (i : Nat) (hi : i < 4) => twinT_room (i := i) hg hi)
  obtain ⟨n, hn⟩ : ∃ n, l.length = n := ⟨_, rfl⟩
  rw [hn] at HS HR hl ⊢
  clear h hg hn
  have hcap : n < n + 4 := by omega
  go_enter Tryd.func73, Tryd.ntmps73
  go_wp2_with fail
  refine (HS.out).mono ?_
  rintro e w1 ⟨rfl, j, rfl⟩
  go_wp2_with fail
  go_loop [8] (fun i => ∃ k : Nat, k ≤ 4 ∧ i = .int .i64 k) (fun i => 4 - (intOf i).toNat)
  case atStart => exact ⟨0, by omega, rfl⟩
  case round =>
    obtain ⟨k, hk, rfl⟩ := hrel
    by_cases hlt : k < 4
    · have c0 := HR.out k hlt
      have t1 : (k : Int) < 4 := by omega
      go_wp2_with fail
      go_round
      case rel => exact ⟨k + 1, by omega, by go_num⟩
      case measure => simp [intOf]; omega
    · obtain rfl : k = 4 := by omega
      go_wp2_with fail
      go_ret
      exact ⟨rfl, j, rfl⟩
set_option maxRecDepth 100000 in
set_option maxHeartbeats 1000000 in
theorem left44 {A : Option Addr} {c g : Nat} {l : List ByteArray} (w : World) (h : DomsAt w w.heap.size A l) (hg : w.heap[g]? = some (.cells (rowT (twinT l)) 9 (0, 0))) :
    Calls Tryd.prog 44 #[.slice (some ⟨g, 0, none⟩) l.length (l.length + 4), .slice A l.length c] w (SamePost true w) := by
  have HS := Lib.hid (left73 (c := c) w h hg)
  obtain ⟨n, hn⟩ : ∃ n, l.length = n := ⟨_, rfl⟩
  rw [hn] at HS ⊢
  unfold strangeT at HS
  clear h hg hn
  go_enter Tryd.func44, Tryd.ntmps44
  go_wp2_with fail
  refine (HS.out).mono ?_
  rintro e w1 ⟨rfl, j, rfl⟩
  go_wp2_with fail
  go_ret
  exact ⟨rfl, j, rfl⟩
end Go.Proofs.YtfolamkjlgpgmaaDoor
