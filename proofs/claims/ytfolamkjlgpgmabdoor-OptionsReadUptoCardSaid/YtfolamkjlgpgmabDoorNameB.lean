/- Names put and read again, in plain words. No condition. (Printed by gNameB.py.) -/
import Derived.Test.YtfolamkjlgpgmabDoorName
import Derived.Test.YtfolamkjlgpgmabDoorAgain
import Derived.Test.YtfolamkjlgpgmabDoorTellV
namespace Go.Proofs.YtfolamkjlgpgmabDoor
open Go.RowKit
set_option linter.unusedVariables false
set_option linter.unusedSimpArgs false
theorem spl_join : ∀ s : List UInt8, Lib.join (spl 46 s) [46] = s
  | [] => by simp [spl, Lib.join_one]
  | x :: s => by
    have ih := spl_join s
    cases h : spl 46 s with
    | nil => exact absurd h (spl_ne 46 s)
    | cons q qs =>
      rw [h, Lib.join_cons] at ih
      unfold spl
      split
      · rename_i e
        subst e
        rw [h, Lib.join_cons]
        have : Lib.joinTail [46] (q :: qs) = 46 :: (q ++ Lib.joinTail [46] qs) := by simp [Lib.joinTail]
        rw [this, ih]; rfl
      · rw [h]
        show Lib.join ((x :: q) :: qs) [46] = _
        rw [Lib.join_cons, List.cons_append, ih]
theorem ofNat_toNat (p : List UInt8) : (p.map (·.toNat)).map UInt8.ofNat = p := by
  rw [List.map_map]
  have : UInt8.ofNat ∘ (fun x : UInt8 => x.toNat) = id := by funext x; simp
  rw [this, List.map_id]
theorem part_pos {p : List UInt8} (h : partOk p = true) : 0 < p.length ∧ p.length ≤ 63 := by
  unfold partOk at h
  simp only [Bool.and_eq_true, decide_eq_true_eq] at h
  refine ⟨?_, h.1.2⟩
  cases p with
  | nil => have := h.1.1; cases this
  | cons y ys => simp
theorem nameG_parts : ∀ (ps : List (List UInt8)) (pre tail : List Nat) (acc : List (List UInt8)), (∀ p ∈ ps, partOk p = true) →
    nameG (pre ++ (ps.flatMap lenB ++ 0 :: tail)) pre.length acc = some (pre.length + (ps.flatMap lenB).length + 1, acc ++ ps)
  | [], pre, tail, acc, _ => by
    rw [List.flatMap_nil, List.nil_append, List.append_nil, nameG_zero (by simp) (by simp [List.getD_eq_getElem?_getD])]
    rfl
  | p :: ps, pre, tail, acc, h => by
    obtain ⟨h0, h63⟩ := part_pos (h p (by simp))
    have e : pre ++ ((p :: ps).flatMap lenB ++ 0 :: tail) = (pre ++ lenB p) ++ (ps.flatMap lenB ++ 0 :: tail) := by simp
    have hl : (lenB p).length = p.length + 1 := by simp [lenB]
    have hg : (pre ++ ((p :: ps).flatMap lenB ++ 0 :: tail)).getD pre.length 0 = p.length := by
      rw [List.getD_eq_getElem?_getD, List.getElem?_append_right (Nat.le_refl _), Nat.sub_self]
      simp [lenB]
    have hlen : pre.length + 1 + p.length ≤ (pre ++ ((p :: ps).flatMap lenB ++ 0 :: tail)).length := by
      rw [e, List.length_append, List.length_append, hl]; omega
    have hlab : labU (pre ++ ((p :: ps).flatMap lenB ++ 0 :: tail)) (pre.length + 1) p.length = p := by
      unfold labU
      have h1 : (pre ++ ((p :: ps).flatMap lenB ++ 0 :: tail)).drop (pre.length + 1) = p.map (·.toNat) ++ (ps.flatMap lenB ++ 0 :: tail) := by
        have h2 : pre ++ ((p :: ps).flatMap lenB ++ 0 :: tail) = (pre ++ [p.length]) ++ (p.map (·.toNat) ++ (ps.flatMap lenB ++ 0 :: tail)) := by simp [lenB]
        have h3 : pre.length + 1 = (pre ++ [p.length]).length := by simp
        rw [h2, h3, List.drop_left]
      rw [h1, List.take_append_of_le_length (by simp), List.take_of_length_le (by simp), ofNat_toNat]
    have h1 := nameG_step (acc := acc) (l := pre ++ ((p :: ps).flatMap lenB ++ 0 :: tail)) (pos := pre.length) (by omega) (by rw [hg]; omega) (by rw [hg]; exact hlen) (by rw [hg, hlab]; exact h p (by simp))
    rw [hg, hlab] at h1
    have h2 := nameG_parts ps (pre ++ lenB p) tail (acc ++ [p]) (fun q hq => h q (by simp [hq]))
    rw [← e, List.length_append, hl] at h2
    rw [h1, show pre.length + 1 + p.length = pre.length + (p.length + 1) by omega, h2]
    congr 2
    · rw [List.flatMap_cons, List.length_append, hl]; omega
    · simp
theorem dom_ne {s : List UInt8} (h : domOk s = true) : s ≠ [] := by
  rintro rfl
  cases h
theorem dom_parts {s : List UInt8} (h : domOk s = true) : (∀ p ∈ spl 46 s, partOk p = true) ∧ s.length ≤ 253 := by
  unfold domOk at h
  simp only [Bool.and_eq_true, decide_eq_true_eq] at h
  exact ⟨List.all_eq_true.1 h.2, h.1⟩
theorem domB_ok {s : List UInt8} (h : domOk s = true) : domB s = (spl 46 s).flatMap lenB ++ [0] := by unfold domB; rw [if_pos h]
theorem nameN_dom {s : List UInt8} (h : domOk s = true) (pre tail : List Nat) : nameN (pre ++ (domB s ++ tail)) pre.length = some (pre.length + (domB s).length, s) := by
  obtain ⟨hp, hl⟩ := dom_parts h
  have e : pre ++ (domB s ++ tail) = pre ++ ((spl 46 s).flatMap lenB ++ 0 :: tail) := by rw [domB_ok h]; simp
  have h1 := nameG_parts (spl 46 s) pre tail [] hp
  rw [List.nil_append] at h1
  have hj : joinN (spl 46 s) = s := spl_join s
  rw [e, nameN_some h1 (by rw [hj]; exact dom_ne h) (by rw [hj]; exact hl), hj, domB_ok h, List.length_append]
  rfl
theorem full_gt : ∀ (m : List Nat) (i x : Nat), m.reverse[i]? = some x → x ≠ 0 → i < (m.dropWhile (· == 0)).length
  | [], i, x, h, _ => by simp at h
  | y :: m, i, x, h, hx => by
    rw [List.reverse_cons] at h
    rw [List.dropWhile_cons]
    rcases Nat.lt_or_ge i m.length with hi | hi
    · rw [List.getElem?_append_left (by simpa using hi)] at h
      split
      · exact full_gt m i x h hx
      · simp; omega
    · rw [List.getElem?_append_right (by simpa using hi)] at h
      have h0 : i - m.reverse.length = 0 := by have := (List.getElem?_eq_some_iff.1 h).1; simp at this ⊢; omega
      rw [h0] at h
      simp only [List.getElem?_cons_zero, Option.some.injEq] at h
      subst h
      have : (y == 0) = false := by simpa using hx
      rw [this]
      have h1 : i = m.length := by simp at h0; omega
      simp [h1]
theorem fullL_gt {l : List Nat} {i x : Nat} (h : l[i]? = some x) (hx : x ≠ 0) : i < fullL l := by
  unfold fullL
  exact full_gt l.reverse i x (by rw [List.reverse_reverse]; exact h) hx
theorem full_zeros (q : List Nat) (z : Nat) : fullL (q ++ List.replicate z 0) = fullL q := by
  unfold fullL
  rw [List.reverse_append, List.reverse_replicate]
  induction z with
  | zero => rfl
  | succ z ih => rw [List.replicate_succ, List.cons_append, List.dropWhile_cons]; simp
theorem domB_head {s : List UInt8} (h : domOk s = true) : ∃ k t, domB s = k :: t ∧ k ≠ 0 := by
  obtain ⟨hp, _⟩ := dom_parts h
  rw [domB_ok h]
  cases hs : spl 46 s with
  | nil => exact absurd hs (spl_ne 46 s)
  | cons p ps =>
    have := (part_pos (hp p (by rw [hs]; simp))).1
    exact ⟨p.length, p.map (·.toNat) ++ (ps.flatMap lenB ++ [0]), by simp [lenB], by omega⟩
theorem domG_names : ∀ (ss : List (List UInt8)) (pre : List Nat) (z : Nat) (acc : List (List UInt8)), (∀ s ∈ ss, domOk s = true) →
    domG (pre ++ (ss.flatMap domB ++ List.replicate z 0)) (fullL (pre ++ (ss.flatMap domB ++ List.replicate z 0))) pre.length acc = some (acc ++ ss)
  | [], pre, z, acc, _ => by
    rw [List.flatMap_nil, List.nil_append, List.append_nil]
    refine domG_done (fullL_le _) ?_
    rw [full_zeros]
    have := fullL_le pre
    omega
  | s :: ss, pre, z, acc, h => by
    have hs := h s (by simp)
    have e : pre ++ ((s :: ss).flatMap domB ++ List.replicate z 0) = pre ++ (domB s ++ (ss.flatMap domB ++ List.replicate z 0)) := by simp
    have e2 : pre ++ ((s :: ss).flatMap domB ++ List.replicate z 0) = (pre ++ domB s) ++ (ss.flatMap domB ++ List.replicate z 0) := by simp
    obtain ⟨k, t, hk, hk0⟩ := domB_head hs
    have hlt : pre.length < fullL (pre ++ ((s :: ss).flatMap domB ++ List.replicate z 0)) := by
      refine fullL_gt (x := k) ?_ hk0
      rw [e, hk, List.getElem?_append_right (Nat.le_refl _), Nat.sub_self]
      rfl
    have hn := nameN_dom hs pre (ss.flatMap domB ++ List.replicate z 0)
    rw [← e] at hn
    rw [domG_step (fullL_le _) hlt hn]
    have h2 := domG_names ss (pre ++ domB s) z (acc ++ [s]) (fun q hq => h q (by simp [hq]))
    rw [← e2, List.length_append] at h2
    rw [h2]
    simp
/-- the names of a list that may be ones -/
def okN (D : List ByteArray) : List ByteArray := D.filter fun s => domOk s.data.toList
theorem doms_ok (D : List ByteArray) : (D.flatMap fun s => domB s.data.toList) = ((okN D).map (·.data.toList)).flatMap domB := by
  unfold okN
  induction D with
  | nil => rfl
  | cons s D ih =>
    rw [List.flatMap_cons, ih, List.filter_cons]
    cases h : domOk s.data.toList with
    | true => rw [if_pos rfl, List.map_cons, List.flatMap_cons]
    | false =>
      rw [if_neg (by simp)]
      have : domB s.data.toList = [] := by unfold domB; rw [h]; rfl
      rw [this, List.nil_append]
theorem beN_be4 {n : Nat} (hn : n < 4294967296) : beN (be4 n) = n := by
  unfold beN be4
  simp only [List.foldl_cons, List.foldl_nil]
  omega
theorem num_be4 {n : Nat} (hn : n < 4294967296) (a b : Nat) (t : List Nat) : num1 ([a, b] ++ be4 n ++ t) 2 4 = n := by
  unfold num1
  have : (([a, b] ++ be4 n ++ t).drop 2).take 4 = be4 n := by simp [be4]
  rw [this, beN_be4 hn]
theorem isDom_back {n : Nat} {D : List ByteArray} (z : Nat) : isDom 31 (domsB n D ++ List.replicate z 0) = if okN D = [] then none else some ((okN D).map (·.data.toList)) := by
  have e : domsB n D ++ List.replicate z 0 = ([0, 0] ++ be4 n) ++ (((okN D).map (·.data.toList)).flatMap domB ++ List.replicate z 0) := by
    unfold domsB
    rw [doms_ok]
    simp
  have h1 := domG_names ((okN D).map (·.data.toList)) ([0, 0] ++ be4 n) z [] (fun s hs => by
    obtain ⟨t, ht, rfl⟩ := List.mem_map.1 hs
    exact (List.mem_filter.1 ht).2)
  rw [← e, List.nil_append] at h1
  have h6 : 6 ≤ (domsB n D ++ List.replicate z 0).length := by rw [e]; simp [be4]
  have h1' : domG (domsB n D ++ List.replicate z 0) (fullL (domsB n D ++ List.replicate z 0)) 6 [] = some ((okN D).map (·.data.toList)) := h1
  unfold isDom
  rw [if_pos ⟨h6, rfl⟩, h1']
  cases okN D with
  | nil => rfl
  | cons y ys => rfl
theorem padL_id {l : List Nat} (h : (l.length + 2) % 8 = 0) (hl : l.length ≤ 2038) : padL l = l := by
  unfold padL eightsO
  rw [Nat.min_eq_left hl, show 8 * ((2 + l.length + 7) / 8) - 2 - l.length = 0 by omega]
  simp
end Go.Proofs.YtfolamkjlgpgmabDoor
