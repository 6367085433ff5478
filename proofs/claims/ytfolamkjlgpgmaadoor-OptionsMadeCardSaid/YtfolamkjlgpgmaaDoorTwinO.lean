/- A twin of options: the walk. No condition but that the options are few. -/
import Derived.Test.YtfolamkjlgpgmaaDoorRefP
namespace Go.Proofs.YtfolamkjlgpgmaaDoor
open Go.RowKit
set_option linter.unusedVariables false
set_option linter.unusedSimpArgs false
def strangeO : Opt := ⟨201, none, 0, []⟩
def zeroO : Opt := ⟨0, none, 0, []⟩
theorem rowV_split (P Q : List Opt) : rowV (P ++ Q) = rowV P ++ rowV Q := by simp [rowV]
theorem rowV_set {P Q : List Opt} (z x : Opt) : ((rowV (P ++ z :: Q)).toArray.setIfInBounds (P.length * 2) (.int .u8 (x.kind : Int))).setIfInBounds (P.length * 2 + 1) (.slice x.adr x.data.length x.cap) = (rowV (P ++ x :: Q)).toArray := by
  rw [List.setIfInBounds_toArray, List.setIfInBounds_toArray]
  congr 1
  have hl := rowV_length P
  rw [rowV_split, rowV_split, List.set_append_right _ _ (by omega), List.set_append_right _ _ (by omega), hl]
  congr 1
  rw [Nat.sub_self, show P.length * 2 + 1 - P.length * 2 = 1 by omega]
  simp [rowV]
/-- j-th of a twin's row -/
def TwinOf (W : World) (gt : Nat) (L : List Opt) (j : Nat) (x : Opt) : Prop := match L[j]? with
  | some y => x.kind = y.kind ∧ x.data = y.data ∧ x.cap = x.data.length + 4 ∧ ∃ g, x.adr = some ⟨g, 0, none⟩ ∧ gt < g ∧ W.heap[g]? = some (.cells (row8 (twinL x.data 199)).toArray 5 (0, 0))
  | none => x = strangeO
structure TwI (w W : World) (gt : Nat) (L P Q : List Opt) : Prop where
  row : W.heap[gt]? = some (.cells (rowV (P ++ Q)).toArray 41 (0, 0))
  twin : ∀ j x, P[j]? = some x → TwinOf W gt L j x
  apart : P.Pairwise (fun x y => x.adr = none ∨ x.adr ≠ y.adr)
  below : Below gt w W
theorem TwinOf.keep {W W' : World} {gt : Nat} {L : List Opt} {j : Nat} {x : Opt} (h : TwinOf W gt L j x) (hk : ∀ g o, gt < g → W.heap[g]? = some o → W'.heap[g]? = some o) : TwinOf W' gt L j x := by
  unfold TwinOf at h ⊢
  cases hL : L[j]? with
  | none => rw [hL] at h; exact h
  | some y =>
    rw [hL] at h
    obtain ⟨h1, h2, h3, g, h4, h5, h6⟩ := h
    exact ⟨h1, h2, h3, g, h4, h5, hk g _ h5 h6⟩
theorem TwI.step {w W W' : World} {gt : Nat} {L P Q : List Opt} (h : TwI w W gt L P Q) (hb : Below W.heap.size W W') : TwI w W' gt L P Q :=
  ⟨(hb.block gt (lt_of_blk h.row)).trans h.row, fun j x hx => (h.twin j x hx).keep (fun g o _ h2 => (hb.block g (lt_of_blk h2)).trans h2), h.apart, h.below.trans (hb.mono (Nat.le_of_lt (lt_of_blk h.row)))⟩
theorem TwI.set {w W : World} {gt : Nat} {L P Q : List Opt} {z : Opt} (h : TwI w W gt L P (z :: Q)) (x : Opt) :
    TwI w ((W.setCell ⟨gt, P.length * 2, none⟩ (.int .u8 (x.kind : Int))).setCell ⟨gt, P.length * 2 + 1, none⟩ (.slice x.adr x.data.length x.cap)) gt L P (x :: Q) := by
  have t0 := Turned.setCell h.row (P.length * 2) (.int .u8 (x.kind : Int))
  have t := t0.trans (Turned.setCell (t0.get (lt_of_blk h.row)) (P.length * 2 + 1) (.slice x.adr x.data.length x.cap))
  rw [rowV_set] at t
  exact ⟨t.get (lt_of_blk h.row), fun j y hy => (h.twin j y hy).keep (fun g o h1 h2 => t.keep h2 (by omega)), h.apart, h.below.trans (t.below (Nat.le_refl _))⟩
theorem TwI.push {w W : World} {gt : Nat} {L P Q : List Opt} {x : Opt} (h : TwI w W gt L P (x :: Q)) (hx : TwinOf W gt L P.length x) (ha : ∀ y ∈ P, y.adr = none ∨ y.adr ≠ x.adr) : TwI w W gt L (P ++ [x]) Q := by
  refine ⟨by rw [List.append_assoc]; exact h.row, fun j y hy => ?_, ?_, h.below⟩
  · rcases Nat.lt_or_ge j P.length with h1 | h1
    · rw [List.getElem?_append_left h1] at hy; exact h.twin j y hy
    · rw [List.getElem?_append_right h1] at hy
      obtain rfl : j = P.length := by have := (List.getElem?_eq_some_iff.1 hy).1; simp at this; omega
      simp at hy; subst hy; exact hx
  · rw [List.pairwise_append]
    exact ⟨h.apart, by simp, fun y hy z hz => by rw [List.mem_singleton] at hz; subst hz; exact ha y hy⟩
theorem make_opts (z : Nat) (W : World) (hz : z ≤ 1000000) : (Instr.makeSlice 25 (.int .i64 (z : Int)) (.int .i64 (z : Int))).run Tryd.prog W = .ok (.slice (some ⟨W.heap.size, 0, none⟩) z z) (W.alloc (.cells (rowV (List.replicate z zeroO)).toArray 41)) := by
  obtain ⟨i41, hi, hz0, hz1, hz2⟩ := info_parts info41
  have h := run_make (P := Tryd.prog) W 25 41 i41 (.agg #[.int .u8 0, .slice none 0 0]) Tryd.underlying25 hi hz0 .i64 .i64 (z : Int) (z : Int) (by omega) (by omega) (by rw [hz2]; omega) (by omega)
  rw [h, hz1]
  have e : madeCells (Value.agg #[.int .u8 0, .slice none 0 0]).cells (((z : Int)).toNat * 2) = (rowV (List.replicate z zeroO)).toArray := by
    apply Array.ext_getElem?
    intro i
    rw [Int.toNat_natCast]
    by_cases hi : i < z * 2
    · have hj : (List.replicate z zeroO)[i / 2]? = some zeroO := by rw [List.getElem?_replicate, if_pos (by omega)]
      obtain ⟨r1, r2⟩ := rowV_get hj
      rcases Nat.mod_two_eq_zero_or_one i with h2 | h2
      · rw [show i / 2 * 2 = i by omega] at r1
        rw [show (rowV (List.replicate z zeroO)).toArray[i]? = some (.int .u8 (zeroO.kind : Int)) from (by rw [List.getElem?_toArray]; exact r1)]
        simp [madeCells, Value.cells, hi, h2, zeroO]
      · rw [show i / 2 * 2 + 1 = i by omega] at r2
        rw [show (rowV (List.replicate z zeroO)).toArray[i]? = some (.slice zeroO.adr zeroO.data.length zeroO.cap) from (by rw [List.getElem?_toArray]; exact r2)]
        simp [madeCells, Value.cells, hi, h2, zeroO]
    · rw [Array.getElem?_eq_none (by simp [madeCells]; omega), List.getElem?_toArray, List.getElem?_eq_none (by rw [rowV_length]; simp; omega)]
  rw [e]
  simp
/-- a twin of options -/
structure TwO (w W : World) (gt : Nat) (L T : List Opt) : Prop where
  row : W.heap[gt]? = some (.cells (rowV (T ++ List.replicate 4 strangeO)).toArray 41 (0, 0))
  len : T.length = L.length
  twin : ∀ j x, T[j]? = some x → TwinOf W gt L j x
  apart : T.Pairwise (fun x y => x.adr = none ∨ x.adr ≠ y.adr)
  below : Below gt w W
theorem TwI.done {w W : World} {gt : Nat} {L P : List Opt} (h : TwI w W gt L P []) (hl : P.length = L.length + 4) : TwO w W gt L (P.take L.length) := by
  have e : P.drop L.length = List.replicate 4 strangeO := by
    apply List.ext_getElem?
    intro i
    rw [List.getElem?_drop, List.getElem?_replicate]
    by_cases hi : i < 4
    · rw [if_pos hi]
      have h1 := h.twin (L.length + i) (P[L.length + i]'(by omega)) (List.getElem?_eq_getElem _)
      unfold TwinOf at h1
      rw [List.getElem?_eq_none (by omega : L.length ≤ L.length + i)] at h1
      rw [List.getElem?_eq_getElem (by omega), h1]
    · rw [if_neg hi, List.getElem?_eq_none (by omega)]
  refine ⟨by rw [← e, List.take_append_drop]; have := h.row; rwa [List.append_nil] at this, by rw [List.length_take]; omega, fun j x hx => ?_, h.apart.sublist (List.take_sublist _ _), h.below⟩
  have hj := (List.getElem?_eq_some_iff.1 hx).1
  rw [List.length_take] at hj
  rw [List.getElem?_take_of_lt (by omega)] at hx
  exact h.twin j x hx
def TwinOPost (L : List Opt) (w : World) (e : Ending) (w' : World) : Prop := ∃ T, e = .returned (.slice (some ⟨w.heap.size, 0, none⟩) L.length (L.length + 4)) ∧ TwO w w' w.heap.size L T
theorem TwI.cells {w W : World} {gt : Nat} {L P Q : List Opt} {z : Opt} (h : TwI w W gt L P (z :: Q)) : W.cell? ⟨gt, P.length * 2, none⟩ = some (.int .u8 (z.kind : Int)) ∧ W.cell? ⟨gt, P.length * 2 + 1, none⟩ = some (.slice z.adr z.data.length z.cap) := by
  have hz : (P ++ z :: Q)[P.length]? = some z := by simp
  obtain ⟨r1, r2⟩ := rowV_get hz
  rw [cell_blk h.row, cell_blk h.row, List.getElem?_toArray, List.getElem?_toArray]
  exact ⟨r1, r2⟩
set_option maxRecDepth 100000 in
set_option maxHeartbeats 2000000 in
theorem twin20 {A : Option Addr} {c : Nat} {L : List Opt} (w : World) (h : OptsRd w w.heap.size A L) (hl : L.length ≤ 5000) (hd : ∀ x ∈ L, x.data.length ≤ 5000) :
    Calls Tryd.prog 20 #[.slice A L.length c] w (TwinOPost L w) := by
  obtain ⟨n, hn⟩ : ∃ n, L.length = n := ⟨_, rfl⟩
  have HN := Lib.hid hn
  have HO := Lib.hid h
  have HD := Lib.hid hd
  rw [hn] at hl ⊢
  clear h hn hd
  have hmk : ∀ W : World, (Instr.makeSlice 25 (.int .i64 ((n : Int) + 4)) (.int .i64 ((n : Int) + 4))).run Tryd.prog W = .ok (.slice (some ⟨W.heap.size, 0, none⟩) (n + 4) (n + 4)) (W.alloc (.cells (rowV (List.replicate (n + 4) zeroO)).toArray 41)) := fun W => make_opts (n + 4) W (by omega)
  have I0 : TwI w (w.alloc (.cells (rowV (List.replicate (n + 4) zeroO)).toArray 41)) w.heap.size L [] (List.replicate (n + 4 - 0) zeroO) := ⟨by rw [heap_alloc_new]; rfl, by simp, .nil, (Below.refl _ _).alloc (Nat.le_refl _) _⟩
  have HI := Lib.hid I0
  clear I0
  go_enter Tryd.func20, Tryd.ntmps20
  go_wp2_with fail
  obtain ⟨gt, hgt⟩ : ∃ gt, gt = w.heap.size := ⟨_, rfl⟩
  rw [← hgt] at HI ⊢
  have NG := Lib.hid hgt; clear hgt
  go_loopw [4] (fun i wr => ∃ k P, k ≤ n + 4 ∧ i = .int .i64 (k : Nat) ∧ P.length = k ∧ TwI w wr gt L P (List.replicate (n + 4 - k) zeroO)) (fun i _ => n + 4 - (intOf i).toNat)
  case atStart => exact ⟨0, [], by omega, rfl, rfl, HI.out⟩
  case round =>
    clear HI
    obtain ⟨k, P, hk, rfl, hP, I⟩ := hrel
    by_cases hlt : k < n + 4
    · rw [show n + 4 - k = (n + 4 - (k + 1)) + 1 by omega, List.replicate_succ] at I
      obtain ⟨c0, c1⟩ := I.cells
      have f0 := frozen_blk I.row (P.length * 2)
      have f1 := frozen_blk I.row (P.length * 2 + 1)
      have I1 := I.set strangeO
      rw [hP] at c0 c1 f0 f1 I1
      have t1 : (k : Int) < (n : Int) + 4 := by omega
      have HI := Lib.hid I
      have HI1 := Lib.hid I1
      have HPL := Lib.hid hP
      clear I I1 hP
      by_cases hln : k < n
      · obtain ⟨x, hx⟩ : ∃ x, L[k]? = some x := ⟨L[k]'(by rw [HN.out]; exact hln), List.getElem?_eq_getElem _⟩
        obtain ⟨b, o, rfl, hb, hc⟩ := HO.out.at_ (by rintro rfl; simp at hx)
        rw [← NG.out] at hb
        obtain ⟨x0, x1⟩ := hc k x hx
        have hbx := HO.out.each x (List.mem_of_getElem? hx)
        have hdx := HD.out x (List.mem_of_getElem? hx)
        have HX := Lib.hid hx
        have ck0 : ∀ W, (∃ z, TwI w W gt L P (z :: List.replicate (n + 4 - (k + 1)) zeroO)) → W.cell? ⟨b, o + k * 2, none⟩ = some (.int .u8 (x.kind : Int)) := fun W hW => by
          obtain ⟨z, hW⟩ := hW
          exact (hW.below.cell (p := ⟨b, o + k * 2, none⟩) hb).trans x0
        have ck1 : ∀ W, (∃ z, TwI w W gt L P (z :: List.replicate (n + 4 - (k + 1)) zeroO)) → W.cell? ⟨b, o + k * 2 + 1, none⟩ = some (.slice x.adr x.data.length x.cap) := fun W hW => by
          obtain ⟨z, hW⟩ := hW
          exact (hW.below.cell (p := ⟨b, o + k * 2 + 1, none⟩) hb).trans x1
        have HT : Hid (∀ W, (∃ z, TwI w W gt L P (z :: List.replicate (n + 4 - (k + 1)) zeroO)) → Calls Tryd.prog 9 #[.slice x.adr x.data.length x.cap] W fun e w5 => ∃ g5, e = .returned (.slice (some ⟨g5, 0, none⟩) x.data.length (x.data.length + 4)) ∧ gt < g5 ∧ w5.heap[g5]? = some (.cells (row8 (twinL x.data 199)).toArray 5 (0, 0)) ∧ (∀ y ∈ P, y.adr ≠ some ⟨g5, 0, none⟩) ∧ ∃ z, TwI w w5 gt L P (z :: List.replicate (n + 4 - (k + 1)) zeroO)) := Lib.hid (by
          rintro W ⟨z, hW⟩
          have hgW := lt_of_blk hW.row
          refine (twin9 W ((hbx.below (by rw [← NG.out]; exact hW.below)).mono (by rw [← NG.out]; omega)) hdx).mono ?_
          rintro e w5 ⟨rfl, h5, b5⟩
          refine ⟨W.heap.size, rfl, hgW, h5, fun y hy e => ?_, z, hW.step b5⟩
          obtain ⟨j, hj, rfl⟩ := List.getElem_of_mem hy
          have h1 := hW.twin j _ (List.getElem?_eq_getElem hj)
          unfold TwinOf at h1
          cases hL : L[j]? with
          | none => rw [hL] at h1; rw [h1] at e; cases e
          | some q =>
            rw [hL] at h1
            obtain ⟨-, -, -, g, e2, -, h3⟩ := h1
            rw [e2] at e
            cases e
            exact absurd (lt_of_blk h3) (by omega))
        clear hx hc x0 x1 hbx hdx
        go_wp2_with fail
        have hS : ∃ z, TwI w (((wr.setCell ⟨gt, k * 2, none⟩ (.int .u8 201)).setCell ⟨gt, k * 2 + 1, none⟩ (.slice none 0 0)).drew) gt L P (z :: List.replicate (n + 4 - (k + 1)) zeroO) := ⟨_, HI1.out.step (Below.refl _ _).drew⟩
        refine wp_region_held_drew (S := fun W => ∃ z, TwI w W gt L P (z :: List.replicate (n + 4 - (k + 1)) zeroO)) (by kernel_rfl) hS ?_
        clear hS
        intro HS
        refine wpAnyH_take (i := 0) (v := ?_) rfl (by kernel_rfl) (by kernel_rfl) (by kernel_rfl) (fun _ _ _ h => h) (Or.inl ⟨by go_simp, ?hy⟩) HS ?_
        case hy => intro W hW; go_simp; (try with_reducible rfl)
        try simp only [List.getElem_toArray, List.getElem_cons_zero, List.getElem_cons_succ, Act.put, List.setIfInBounds_toArray, List.set_cons_zero, List.set_cons_succ]
        refine wpAnyH_take (i := 1) (v := ?_) rfl (by kernel_rfl) (by kernel_rfl) (by kernel_rfl) (fun _ _ _ h => h) (Or.inl ⟨by go_simp, ?hy⟩) HS ?_
        case hy => intro W hW; go_simp; (try with_reducible rfl)
        try simp only [List.getElem_toArray, List.getElem_cons_zero, List.getElem_cons_succ, Act.put, List.setIfInBounds_toArray, List.set_cons_zero, List.set_cons_succ]
        refine wpAnyH_take (i := 2) (v := ?_) rfl (by kernel_rfl) (by kernel_rfl) (by kernel_rfl) (fun _ _ _ h => h) (Or.inl ⟨by go_simp, ?hy⟩) HS ?_
        case hy => intro W hW; go_simp; (try with_reducible rfl)
        try simp only [List.getElem_toArray, List.getElem_cons_zero, List.getElem_cons_succ, Act.put, List.setIfInBounds_toArray, List.set_cons_zero, List.set_cons_succ]
        refine wpAnyH_take (i := 3) (v := ?_) rfl (by kernel_rfl) (by kernel_rfl) (by kernel_rfl) (fun _ _ _ h => h) (Or.inl ⟨by go_simp, ?hy⟩) HS ?_
        case hy => intro W hW; go_simp; (try with_reducible rfl)
        try simp only [List.getElem_toArray, List.getElem_cons_zero, List.getElem_cons_succ, Act.put, List.setIfInBounds_toArray, List.set_cons_zero, List.set_cons_succ]
        refine wpAnyH_take (i := 4) (v := .pointer (some ⟨b, o + k * 2, none⟩)) rfl (by kernel_rfl) (by kernel_rfl) (by kernel_rfl) (fun _ _ _ h => h) (Or.inl ⟨by go_simp, fun W hW => by go_simp; (try omega)⟩) HS ?_
        try simp only [List.getElem_toArray, List.getElem_cons_zero, List.getElem_cons_succ, Act.put, List.setIfInBounds_toArray, List.set_cons_zero, List.set_cons_succ]
        refine wpAnyH_take (i := 5) (v := ?_) rfl (by kernel_rfl) (by kernel_rfl) (by kernel_rfl) (fun _ _ _ h => h) (Or.inl ⟨by go_simp, ?hy⟩) HS ?_
        case hy => intro W hW; go_simp; (try with_reducible rfl)
        try simp only [List.getElem_toArray, List.getElem_cons_zero, List.getElem_cons_succ, Act.put, List.setIfInBounds_toArray, List.set_cons_zero, List.set_cons_succ]
        refine wpAnyH_take (i := 6) (v := ?_) rfl (by kernel_rfl) (by kernel_rfl) (by kernel_rfl) (fun _ _ _ h => h) (Or.inl ⟨by go_simp, ?hy⟩) HS ?_
        case hy => intro W hW; have c := ck0 W hW; go_simp; (try with_reducible rfl)
        try simp only [List.getElem_toArray, List.getElem_cons_zero, List.getElem_cons_succ, Act.put, List.setIfInBounds_toArray, List.set_cons_zero, List.set_cons_succ]
        refine wpAnyH_take (i := 7) (v := ?_) rfl (by kernel_rfl) (by kernel_rfl) (by kernel_rfl) (fun _ _ _ h => h) (Or.inl ⟨by go_simp, ?hy⟩) HS ?_
        case hy => intro W hW; go_simp; (try with_reducible rfl)
        try simp only [List.getElem_toArray, List.getElem_cons_zero, List.getElem_cons_succ, Act.put, List.setIfInBounds_toArray, List.set_cons_zero, List.set_cons_succ]
        refine wpAnyH_take (i := 8) (v := ?_) rfl (by kernel_rfl) (by kernel_rfl) (by kernel_rfl) (fun _ _ _ h => h) (Or.inl ⟨by go_simp, ?hy⟩) HS ?_
        case hy => intro W hW; go_simp; (try with_reducible rfl)
        try simp only [List.getElem_toArray, List.getElem_cons_zero, List.getElem_cons_succ, Act.put, List.setIfInBounds_toArray, List.set_cons_zero, List.set_cons_succ]
        refine wpAnyH_take (i := 9) (v := .pointer (some ⟨b, o + k * 2, none⟩)) rfl (by kernel_rfl) (by kernel_rfl) (by kernel_rfl) (fun _ _ _ h => h) (Or.inl ⟨by go_simp, fun W hW => by go_simp; (try omega)⟩) HS ?_
        try simp only [List.getElem_toArray, List.getElem_cons_zero, List.getElem_cons_succ, Act.put, List.setIfInBounds_toArray, List.set_cons_zero, List.set_cons_succ]
        refine wpAnyH_take (i := 10) (v := ?_) rfl (by kernel_rfl) (by kernel_rfl) (by kernel_rfl) (fun _ _ _ h => h) (Or.inl ⟨by go_simp, ?hy⟩) HS ?_
        case hy => intro W hW; go_simp; (try with_reducible rfl)
        try simp only [List.getElem_toArray, List.getElem_cons_zero, List.getElem_cons_succ, Act.put, List.setIfInBounds_toArray, List.set_cons_zero, List.set_cons_succ]
        refine wpAnyH_take (i := 11) (v := ?_) rfl (by kernel_rfl) (by kernel_rfl) (by kernel_rfl) (fun _ _ _ h => h) (Or.inl ⟨by go_simp, ?hy⟩) HS ?_
        case hy => intro W hW; have c := ck1 W hW; go_simp; (try with_reducible rfl)
        try simp only [List.getElem_toArray, List.getElem_cons_zero, List.getElem_cons_succ, Act.put, List.setIfInBounds_toArray, List.set_cons_zero, List.set_cons_succ]
        refine wpAnyH_ready (rs := [12]) (by kernel_rfl) (by simp) ?_
        refine AllReadyH.cons rfl (fun K hK => ?_) AllReadyH.nil
        rw [if_pos (by kernel_rfl)]
        simp only [List.getElem_toArray, List.getElem_cons_zero, List.getElem_cons_succ]
        go_simp
        refine (HT.out _ HS).mono ?_
        rintro e w5 ⟨g5, rfl, hg5, ht5, hne5, z5, I5⟩
        refine hK.out _ _ (⟨z5, I5⟩) (fun HS => ?_)
        clear hK
        try simp only [List.getElem_toArray, List.getElem_cons_zero, List.getElem_cons_succ, Act.put, List.setIfInBounds_toArray, List.set_cons_zero, List.set_cons_succ]
        refine wpAnyH_take (i := 13) (v := ?_) rfl (by kernel_rfl) (by kernel_rfl) (by kernel_rfl) (fun _ _ _ h => h) (Or.inl ⟨by go_simp, ?hy⟩) HS ?_
        case hy => intro W hW; go_simp; (try with_reducible rfl)
        try simp only [List.getElem_toArray, List.getElem_cons_zero, List.getElem_cons_succ, Act.put, List.setIfInBounds_toArray, List.set_cons_zero, List.set_cons_succ]
        refine wpAnyH_take (i := 14) (v := .pointer (some ⟨gt, k * 2, none⟩)) rfl (by kernel_rfl) (by kernel_rfl) (by kernel_rfl) (fun _ _ _ h => h) (Or.inl ⟨by go_simp, fun W hW => by go_simp; (try omega)⟩) HS ?_
        try simp only [List.getElem_toArray, List.getElem_cons_zero, List.getElem_cons_succ, Act.put, List.setIfInBounds_toArray, List.set_cons_zero, List.set_cons_succ]
        have hP := HPL.out
        obtain ⟨c0', c1'⟩ := I5.cells
        have f0' := frozen_blk I5.row (P.length * 2)
        have f1' := frozen_blk I5.row (P.length * 2 + 1)
        have I9 := I5.set ⟨x.kind, some ⟨g5, 0, none⟩, x.data.length + 4, x.data⟩
        rw [hP] at c0' c1' f0' f1' I9
        have ht9 : ((w5.setCell ⟨gt, k * 2, none⟩ (.int .u8 (x.kind : Int))).setCell ⟨gt, k * 2 + 1, none⟩ (.slice (some ⟨g5, 0, none⟩) x.data.length (x.data.length + 4))).heap[g5]? = some (.cells (row8 (twinL x.data 199)).toArray 5 (0, 0)) := by
          have t0 := Turned.setCell I5.row (k * 2) (.int .u8 (x.kind : Int))
          exact (t0.trans (Turned.setCell (t0.get (lt_of_blk I5.row)) (k * 2 + 1) (.slice (some ⟨g5, 0, none⟩) x.data.length (x.data.length + 4)))).keep ht5 (by omega)
        have HZ := Lib.hid (TwI.push I9 (by rw [hP]; unfold TwinOf; rw [HX.out]; exact ⟨rfl, rfl, rfl, g5, rfl, hg5, ht9⟩) (fun y hy => .inr (hne5 y hy)))
        clear ht9
        refine wpAnyH_ready (rs := [15]) (by kernel_rfl) (by simp) ?_
        refine AllReadyH.cons rfl (fun K hK => ?_) AllReadyH.nil
        rw [if_pos (by kernel_rfl)]
        simp only [List.getElem_toArray, List.getElem_cons_zero, List.getElem_cons_succ]
        go_simp
        refine hK.out _ _ ⟨_, I9⟩ (fun HS => ?_)
        clear hK I9 hP
        try simp only [List.getElem_toArray, List.getElem_cons_zero, List.getElem_cons_succ, Act.put, List.setIfInBounds_toArray, List.set_cons_zero, List.set_cons_succ]
        refine wpAnyH_done (by kernel_rfl) ?_ _
        clear HS I5
        go_wp2_with fail
        go_roundw
        case rel => exact ⟨k + 1, _, by omega, by go_num, by rw [List.length_append, HPL.out]; rfl, HZ.out⟩
        case measure => simp [intOf]; omega
      · have HZ : Hid (TwI w ((wr.setCell ⟨gt, k * 2, none⟩ (.int .u8 201)).setCell ⟨gt, k * 2 + 1, none⟩ (.slice none 0 0)) gt L (P ++ [strangeO]) (List.replicate (n + 4 - (k + 1)) zeroO)) :=
          Lib.hid (TwI.push (x := strangeO) HI1.out (by rw [HPL.out]; unfold TwinOf; rw [List.getElem?_eq_none (by rw [HN.out]; omega)]) (fun y hy => by
            rcases y with ⟨k1, a1, c1, d1⟩
            cases a1 with
            | none => exact .inl rfl
            | some a => exact .inr (by intro e; cases e)))
        go_wp2_with fail
        go_roundw
        case rel => exact ⟨k + 1, P ++ [strangeO], by omega, by go_num, by simp [HPL.out], HZ.out⟩
        case measure => simp [intOf]; omega
    · have e : k = n + 4 := by omega
      rw [show n + 4 - k = 0 by omega] at I
      have HR := Lib.hid (TwI.done I (by rw [hP, e, HN.out]))
      have t1 : ¬ ((k : Int) < (n : Int) + 4) := by omega
      clear I hP
      go_wp2_with fail
      go_ret
      exact ⟨_, by rw [← NG.out, HN.out]; rfl, by rw [← NG.out]; exact HR.out⟩
end Go.Proofs.YtfolamkjlgpgmaaDoor
