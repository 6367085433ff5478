/- Several texts in one: NameP, Name, Rest. No condition beyond those that each part names. -/
import Derived.Test.YtfolamkjlgpgmaaGreatDoorDoms
import Derived.Lib.Join
import Derived.Test.YtfolamkjlgpgmaaGreatDoorTellS
import Derived.Laws.BytesArg
/- Names read from bytes, in plain words. No condition. (Printed by gName.py.) -/
namespace Go.Proofs.YtfolamkjlgpgmaaGreatDoor
open Go.RowKit
set_option linter.unusedVariables false
/-- bytes as a part's letters -/
def labU (l : List Nat) (pos n : Nat) : List UInt8 := ((l.drop pos).take n).map UInt8.ofNat
def nameO (l : List Nat) : Nat → Nat → List (List UInt8) → Option (Nat × List (List UInt8))
  | 0, _, _ => none
  | f + 1, pos, acc => if pos < l.length then
      (if l.getD pos 0 = 0 then some (pos + 1, acc)
       else if pos + 1 + l.getD pos 0 ≤ l.length ∧ partOk (labU l (pos + 1) (l.getD pos 0)) = true then nameO l f (pos + 1 + l.getD pos 0) (acc ++ [labU l (pos + 1) (l.getD pos 0)]) else none)
    else none
theorem nameO_fuel (l : List Nat) : ∀ f f' pos acc, l.length - pos < f → l.length - pos < f' → nameO l f pos acc = nameO l f' pos acc
  | 0, _, _, _, h, _ => by omega
  | _, 0, _, _, _, h => by omega
  | f + 1, f' + 1, pos, acc, h, h' => by
    unfold nameO
    split
    · split
      · rfl
      · split
        · rename_i hp h0 hc
          exact nameO_fuel l f f' _ _ (by omega) (by omega)
        · rfl
    · rfl
theorem nameO_pos {l : List Nat} : ∀ f pos acc p ps, nameO l f pos acc = some (p, ps) → pos < p ∧ p ≤ l.length
  | 0, _, _, _, _, h => by cases h
  | f + 1, pos, acc, p, ps, h => by
    unfold nameO at h
    split at h
    · split at h
      · cases h; omega
      · split at h
        · have := nameO_pos f _ _ _ _ h; omega
        · cases h
    · cases h
def nameG (l : List Nat) (pos : Nat) (acc : List (List UInt8)) : Option (Nat × List (List UInt8)) := nameO l (l.length + 1) pos acc
theorem nameG_eq (l : List Nat) (pos : Nat) (acc : List (List UInt8)) : nameG l pos acc = if pos < l.length then
      (if l.getD pos 0 = 0 then some (pos + 1, acc)
       else if pos + 1 + l.getD pos 0 ≤ l.length ∧ partOk (labU l (pos + 1) (l.getD pos 0)) = true then nameG l (pos + 1 + l.getD pos 0) (acc ++ [labU l (pos + 1) (l.getD pos 0)]) else none)
    else none := by
  have e : nameG l pos acc = nameO l (l.length + 2) pos acc := nameO_fuel l _ _ _ _ (by omega) (by omega)
  rw [e]
  unfold nameO
  rfl
theorem nameG_end {l : List Nat} {pos : Nat} {acc : List (List UInt8)} (h : ¬ pos < l.length) : nameG l pos acc = none := by rw [nameG_eq, if_neg h]
theorem nameG_zero {l : List Nat} {pos : Nat} {acc : List (List UInt8)} (h : pos < l.length) (h0 : l.getD pos 0 = 0) : nameG l pos acc = some (pos + 1, acc) := by rw [nameG_eq, if_pos h, if_pos h0]
theorem nameG_far {l : List Nat} {pos : Nat} {acc : List (List UInt8)} (h : pos < l.length) (h0 : l.getD pos 0 ≠ 0) (hf : ¬ pos + 1 + l.getD pos 0 ≤ l.length) : nameG l pos acc = none := by rw [nameG_eq, if_pos h, if_neg h0, if_neg (fun x => hf x.1)]
theorem nameG_bad {l : List Nat} {pos : Nat} {acc : List (List UInt8)} (h : pos < l.length) (h0 : l.getD pos 0 ≠ 0) (hf : partOk (labU l (pos + 1) (l.getD pos 0)) = false) : nameG l pos acc = none := by rw [nameG_eq, if_pos h, if_neg h0, if_neg (fun x => by rw [hf] at x; cases x.2)]
theorem nameG_step {l : List Nat} {pos : Nat} {acc : List (List UInt8)} (h : pos < l.length) (h0 : l.getD pos 0 ≠ 0) (hf : pos + 1 + l.getD pos 0 ≤ l.length) (hp : partOk (labU l (pos + 1) (l.getD pos 0)) = true) : nameG l pos acc = nameG l (pos + 1 + l.getD pos 0) (acc ++ [labU l (pos + 1) (l.getD pos 0)]) := by rw [nameG_eq, if_pos h, if_neg h0, if_pos ⟨hf, hp⟩]
def joinN (ps : List (List UInt8)) : List UInt8 := Lib.join ps [46]
/-- a name from a place on, and the place behind it -/
def nameN (l : List Nat) (pos : Nat) : Option (Nat × List UInt8) := match nameG l pos [] with
  | some (p, ps) => if joinN ps ≠ [] ∧ (joinN ps).length ≤ 253 then some (p, joinN ps) else none
  | none => none
theorem nameN_none {l : List Nat} {pos : Nat} (h : nameG l pos [] = none) : nameN l pos = none := by unfold nameN; rw [h]
theorem nameN_some {l : List Nat} {pos p : Nat} {ps : List (List UInt8)} (h : nameG l pos [] = some (p, ps)) (h0 : joinN ps ≠ []) (h1 : (joinN ps).length ≤ 253) : nameN l pos = some (p, joinN ps) := by unfold nameN; rw [h]; exact if_pos ⟨h0, h1⟩
theorem nameN_not {l : List Nat} {pos p : Nat} {ps : List (List UInt8)} (h : nameG l pos [] = some (p, ps)) (h0 : joinN ps = [] ∨ ¬ (joinN ps).length ≤ 253) : nameN l pos = none := by
  unfold nameN; rw [h]; exact if_neg (fun x => by rcases h0 with h0 | h0; exact x.1 h0; exact h0 x.2)
theorem nameN_pos {l : List Nat} {pos p : Nat} {s : List UInt8} (h : nameN l pos = some (p, s)) : pos < p ∧ p ≤ l.length := by
  unfold nameN at h
  split at h
  · rename_i p0 ps hg
    split at h
    · cases h; exact nameO_pos _ _ _ _ _ hg
    · cases h
  · cases h
theorem join_len (ps : List (List UInt8)) : (joinN ps).length ≤ (ps.map (fun s => s.length + 1)).sum := by
  cases ps with
  | nil => simp [joinN, Lib.join_nil]
  | cons x r =>
    unfold joinN
    rw [Lib.join_length]
    have : ∀ r : List (List UInt8), (r.map (fun s => s.length + 1)).sum = r.length + Lib.lens r := by
      intro r
      induction r with
      | nil => simp [Lib.lens]
      | cons y r ih => simp only [List.map_cons, List.sum_cons, List.length_cons, ih, Lib.lens]; omega
    rw [this]
    simp only [List.length_cons, List.length_nil]
    omega
/-- names one behind the other -/
def domO (l : List Nat) (fl : Nat) : Nat → Nat → List (List UInt8) → Option (List (List UInt8))
  | 0, _, _ => none
  | f + 1, pos, acc => if pos < fl then (match nameN l pos with | some (p, s) => domO l fl f p (acc ++ [s]) | none => none) else some acc
theorem domO_fuel {l : List Nat} {fl : Nat} (hfl : fl ≤ l.length) : ∀ f f' pos acc, l.length - pos < f → l.length - pos < f' → domO l fl f pos acc = domO l fl f' pos acc
  | 0, _, _, _, h, _ => by omega
  | _, 0, _, _, _, h => by omega
  | f + 1, f' + 1, pos, acc, h, h' => by
    unfold domO
    split
    · cases hn : nameN l pos with
      | none => rfl
      | some ps =>
        obtain ⟨p, s⟩ := ps
        have := nameN_pos hn
        exact domO_fuel hfl f f' _ _ (by omega) (by omega)
    · rfl
def domG (l : List Nat) (fl pos : Nat) (acc : List (List UInt8)) : Option (List (List UInt8)) := domO l fl (l.length + 1) pos acc
theorem domG_eq {l : List Nat} {fl : Nat} (hfl : fl ≤ l.length) (pos : Nat) (acc : List (List UInt8)) : domG l fl pos acc = if pos < fl then (match nameN l pos with | some (p, s) => domG l fl p (acc ++ [s]) | none => none) else some acc := by
  have e : domG l fl pos acc = domO l fl (l.length + 2) pos acc := domO_fuel hfl _ _ _ _ (by omega) (by omega)
  rw [e]
  unfold domO
  rfl
theorem domG_done {l : List Nat} {fl pos : Nat} {acc : List (List UInt8)} (hfl : fl ≤ l.length) (h : ¬ pos < fl) : domG l fl pos acc = some acc := by rw [domG_eq hfl, if_neg h]
theorem domG_none {l : List Nat} {fl pos : Nat} {acc : List (List UInt8)} (hfl : fl ≤ l.length) (h : pos < fl) (hn : nameN l pos = none) : domG l fl pos acc = none := by rw [domG_eq hfl, if_pos h, hn]
theorem domG_step {l : List Nat} {fl pos p : Nat} {s : List UInt8} {acc : List (List UInt8)} (hfl : fl ≤ l.length) (h : pos < fl) (hn : nameN l pos = some (p, s)) : domG l fl pos acc = domG l fl p (acc ++ [s]) := by rw [domG_eq hfl, if_pos h, hn]
/-- how many bytes there are but for the noughts at the end -/
def fullL (l : List Nat) : Nat := (l.reverse.dropWhile (· == 0)).length
theorem fullL_le (l : List Nat) : fullL l ≤ l.length := by
  unfold fullL
  have h : ∀ m : List Nat, (m.dropWhile (· == 0)).length ≤ m.length := by
    intro m
    induction m with
    | nil => exact Nat.le_refl _
    | cons x m ih => rw [List.dropWhile_cons]; split; exact Nat.le_trans ih (by simp); exact Nat.le_refl _
  have := h l.reverse
  rwa [List.length_reverse] at this
/-- the names of an option, if it is one of names -/
def isDom (kd : Nat) (l : List Nat) : Option (List (List UInt8)) := if 6 ≤ l.length ∧ kd = 31 then (match domG l (fullL l) 6 [] with | some (x :: xs) => some (x :: xs) | _ => none) else none
end Go.Proofs.YtfolamkjlgpgmaaGreatDoor

/- A name read by a cutter: the walk. No condition but that the bytes are bytes. (Printed by gName.py.) -/
namespace Go.Proofs.YtfolamkjlgpgmaaGreatDoor
open Go.RowKit
set_option linter.unusedVariables false
set_option linter.unusedSimpArgs false
theorem str_conv {W : World} {p g c pos a n cap : Nat} {l : List Nat} (h : CutAt W p g c pos l) (hn : a + n ≤ l.length) : (convert 22 9 (.slice (some ⟨g, a, none⟩) n cap)).run Tryz.prog W = .ok (.string ⟨(labU l a n).toArray⟩) W := by
  have hl : (((l.drop a).take n).map (fun x : Nat => (x : Int))).length = n := by rw [List.length_map, List.length_take, List.length_drop]; omega
  have h1 := run_convert_bytes_arg (P := Tryz.prog) W 22 5 Tryz.underlying22 Tryz.underlying5 g a n cap (((l.drop a).take n).map (fun x : Nat => (x : Int))) hl (fun i hi => by
    have e : l[a + i]? = some (l[a + i]'(by omega)) := List.getElem?_eq_getElem _
    rw [h.rd (a + i) _ e, List.getD_eq_getElem?_getD, List.getElem?_map, List.getElem?_take_of_lt hi, List.getElem?_drop, e]
    rfl) 9 Tryz.underlying9
  have e : strOfNums (((l.drop a).take n).map (fun x : Nat => (x : Int))) = ⟨(labU l a n).toArray⟩ := by
    unfold strOfNums labU
    rw [List.map_map]
    rfl
  rw [h1, e]
def strs (ps : List (List UInt8)) : List Value := ps.map fun s => .string ⟨s.toArray⟩
theorem sum_len (ps : List (List UInt8)) : ps.length ≤ (ps.map (fun s => s.length + 1)).sum := by
  induction ps with
  | nil => exact Nat.le_refl _
  | cons x ps ih => rw [List.map_cons, List.sum_cons, List.length_cons]; omega
theorem grown_trans {w W W' : World} {row row2 : Option Nat} (h : w.grownBy W row) (h2 : W.grownBy W' row2) (hr : ∀ k, row2 = some k → some k = row ∨ w.heap.size ≤ k) : w.grownBy W' row :=
  ⟨h2.os.trans h.os, h2.tape.trans h.tape, h2.output.trans h.output, Nat.le_trans h.size h2.size, fun k hk hne => (h2.block k (Nat.lt_of_lt_of_le hk h.size) (fun e => by
    rcases hr k e.symm with h3 | h3
    · exact hne h3
    · omega)).trans (h.block k hk hne)⟩
theorem below_grown {w W W' : World} {row : Option Nat} (h : w.grownBy W row) (hb : Below W.heap.size W W') : w.grownBy W' row :=
  grown_trans h (row2 := none) ⟨hb.os, hb.tape, hb.output, hb.size, fun k hk _ => hb.block k hk⟩ (fun k e => by cases e)
/-- parts of a name, while they are read -/
structure NR (w : World) (p : Nat) (acc : List (List UInt8)) (v4 : Value) (W : World) : Prop where
  own : W.ownsRow w.heap.size 9 1 v4 acc.length (strs acc)
  grown : w.grownBy W (some p)
  lt : p < w.heap.size
theorem NR.step {w W W' : World} {p : Nat} {acc : List (List UInt8)} {v4 : Value} (h : NR w p acc v4 W) (hb : Below W.heap.size W W') : NR w p acc v4 W' :=
  ⟨own_below h.own hb, below_grown h.grown hb, h.lt⟩
theorem NR.turn {w W W' : World} {p : Nat} {acc : List (List UInt8)} {v4 : Value} {o : Obj} (h : NR w p acc v4 W) (ht : Turned p o W W') : NR w p acc v4 W' := by
  refine ⟨h.own.kept ht.grown ?_, grown_trans h.grown ht.grown (fun k e => .inl e.symm), h.lt⟩
  cases hv : v4.ownBlock with
  | none => exact .inl rfl
  | some k => right; intro e; cases e; have := (h.own.lt _ hv).1; have := h.lt; omega
theorem NR.add {w W W' : World} {p : Nat} {acc acc' : List (List UInt8)} {v4 v5 : Value} (h : NR w p acc v4 W) (hg : W.grownBy W' v4.ownBlock) (ho : W'.ownsRow w.heap.size 9 1 v5 acc'.length (strs acc')) : NR w p acc' v5 W' :=
  ⟨ho, grown_trans h.grown hg (fun k e => .inr (h.own.lt k e).1), h.lt⟩
theorem NR.far {w W w0 : World} {p q g : Nat} {l : List Nat} {acc : List (List UInt8)} {v4 : Value} (h : NR w p acc v4 W) (hq : q < w.heap.size) (hg : l ≠ [] → g < w.heap.size) (hl : w0.heap.size ≤ w.heap.size) {k : Nat} (hk : v4.ownBlock = some k) : k ≠ p ∧ (l ≠ [] → k ≠ g) ∧ k ≠ q ∧ w0.heap.size ≤ k := by
  have h1 := (h.own.lt k hk).1
  have h2 := h.lt
  exact ⟨by omega, fun hl => by have := hg hl; omega, by omega, by omega⟩
def NRel (w w0 : World) (q kd : Nat) (v : Value) (p g c : Nat) (l : List Nat) (pos : Nat) (v4 v5 : Value) (W : World) : Prop :=
  ∃ acc, NR w p acc v4 W ∧ ((∃ a, a < l.length ∧ v5 = .int .i64 (l.getD a 0 : Nat) ∧ CS w0 q kd v p g c (a + 1) l W ∧ nameG l a acc = nameG l pos [] ∧ (acc.map (fun s => s.length + 1)).sum ≤ a) ∨
    (v5 = .int .i64 0 ∧ CB w0 q kd v p W ∧ nameG l pos [] = none ∧ (acc.map (fun s => s.length + 1)).sum ≤ l.length))
theorem left_bad {W : World} {p : Nat} (h : CutBad W p) : leftN W p = 0 := leftN_at h
def NamePost (w0 w : World) (q kd : Nat) (v : Value) (p g c : Nat) (l : List Nat) (pos : Nat) (e : Ending) (w' : World) : Prop :=
  w.grownBy w' (some p) ∧ ((∃ p' s, nameN l pos = some (p', s) ∧ e = .returned (.tuple #[.string ⟨s.toArray⟩, .bool true]) ∧ CS w0 q kd v p g c p' l w') ∨ (nameN l pos = none ∧ ∃ s, e = .returned (.tuple #[.string s, .bool false])))
theorem info9' : (Tryz.prog.info? 9).map (fun i => (i.zero, i.size, i.bytes)) = some (some (.string ByteArray.empty), 1, 16) := by kernel_rfl
theorem join63 {W : World} {B k c : Nat} {A : Option Addr} {acc : List (List UInt8)} (ho : W.ownsRow B 9 1 (.slice A k c) k (strs acc)) (hk : acc.length = k) (hs : (acc.map (fun s => s.length + 1)).sum ≤ 1000000000) :
    Calls Tryz.prog 75 #[.slice A k c, .string ⟨#[46]⟩] W fun e w' => ∃ J : ByteArray, e = .returned (.string J) ∧ J.data.toList = joinN acc ∧ Below W.heap.size W w' := by
  have hl := join_len acc
  have hn := sum_len acc
  rcases ho.2 with ⟨e, hk0⟩ | ⟨g, cap, cur, e, hb, hg, hle, hm, hsz, ht⟩
  · cases e
    have ha : acc = [] := List.eq_nil_of_length_eq_zero (by omega)
    subst ha
    refine (Tryz.strings_Join_none none 0 ⟨#[46]⟩ W).mono ?_
    rintro e w' ⟨rfl, rfl⟩
    exact ⟨_, rfl, rfl, Below.refl _ _⟩
  · cases e
    have h1 := Tryz.strings_Join g 0 c (acc.map fun s => (⟨s.toArray⟩ : ByteArray)) ⟨#[46]⟩ W (fun j x hx => by
      rw [List.getElem?_map, Option.map_eq_some_iff] at hx
      obtain ⟨s, hs1, rfl⟩ := hx
      have h2 : (strs acc)[j]? = some (.string ⟨s.toArray⟩) := by unfold strs; rw [List.getElem?_map, hs1]; rfl
      have hj : j < acc.length := (List.getElem?_eq_some_iff.1 hs1).1
      rw [← ht, List.getElem?_take_of_lt (by omega)] at h2
      rw [Nat.zero_add, cell_blk hg]
      simpa using h2) (lt_of_blk hg) (by rw [List.length_map]; omega) (by rw [List.length_map]; omega) (by
      rw [List.map_map]
      have e3 : (fun s : ByteArray => s.data.toList) ∘ (fun s : List UInt8 => (⟨s.toArray⟩ : ByteArray)) = id := by funext s; rfl
      rw [e3, List.map_id]
      have : (Lib.join acc [46]).length ≤ 1000000000 := by have := hl; unfold joinN at this; omega
      show (Lib.join acc [46]).length ≤ _
      omega)
    rw [List.length_map, hk] at h1
    refine h1.mono ?_
    rintro e w' ⟨rfl, hb2⟩
    refine ⟨_, rfl, ?_, hb2⟩
    rw [List.map_map]
    have e3 : (fun s : ByteArray => s.data.toList) ∘ (fun s : List UInt8 => (⟨s.toArray⟩ : ByteArray)) = id := by funext s; rfl
    rw [e3, List.map_id]
    rfl
set_option maxRecDepth 100000 in
set_option maxHeartbeats 1600000 in
theorem name45 {w0 : World} {q kd p g c pos : Nat} {v : Value} {l : List Nat} (w : World) (h : CS w0 q kd v p g c pos l w) (h256 : ∀ x ∈ l, x < 256) :
    Calls Tryz.prog 48 #[.pointer (some ⟨p, 0, none⟩)] w (NamePost w0 w q kd v p g c l pos) := by
  obtain ⟨i9, hi, hz0, hz1, hz2⟩ := info_parts info9'
  obtain ⟨A0, hp0, -⟩ := h.cut.at_
  have hpl := lt_of_blk hp0
  have hql := lt_of_blk h.box
  have hgl : l ≠ [] → g < w.heap.size := fun hl => lt_of_cell (h.cut.rd 0 (l[0]'(List.length_pos_iff.2 hl)) (List.getElem?_eq_getElem _))
  have hsl := h.below.size
  have HMX : Hid (l.length ≤ 1000000000) := Lib.hid h.cut.max
  have HS := Lib.hid h; have H256 := Lib.hid h256
  have HP0 := Lib.hid hp0
  clear h h256 hp0
  go_enter Tryz.func48, Tryz.ntmps48
  by_cases hp : pos < l.length
  · obtain ⟨y, hy⟩ : ∃ y, l[pos]? = some y := ⟨l[pos], List.getElem?_eq_getElem _⟩
    have hy256 : y < 256 := H256.out _ (List.mem_of_getElem? hy)
    have HNM := Lib.hid (num49_ok _ HS.out.cut hy hy256)
    have HY := Lib.hid hy
    have HQ := Lib.hid hp
    clear hy hp
    go_wp2_with fail
    refine (HNM.out).mono ?_
    rintro e w8 ⟨rfl, k1, o1, k2⟩
    have HREL : Hid (NRel w w0 q kd v p g c l pos (.slice none 0 0) (.int .i64 (y : Int)) w8) := Lib.hid ⟨[], ⟨World.ownsRow_nil _ _ _ _, k2.grown, hpl⟩, .inl ⟨pos, HQ.out, by rw [List.getD_eq_getElem?_getD, HY.out]; rfl, HS.out.turn k1 k2, rfl, by simp⟩⟩
    clear k1 k2 HNM HS HP0
    go_wp2_with fail
    go_loopw [4, 5] (fun v4 v5 wr => NRel w w0 q kd v p g c l pos v4 v5 wr) (fun _ _ wr => leftN wr p)
    case atStart => exact HREL.out
    case round =>
      clear HREL
      unfold NRel at hrel
      obtain ⟨acc, hNR, hcase⟩ := hrel
      rcases hcase with ⟨a, ha, rfl, hCS, hG, hsum⟩ | ⟨rfl, hCB, hG, hsum⟩
      · obtain ⟨n, hn⟩ : ∃ n, l.getD a 0 = n := ⟨_, rfl⟩
        have hn256 : n < 256 := by rw [← hn, List.getD_eq_getElem?_getD, List.getElem?_eq_getElem ha]; exact H256.out _ (List.getElem_mem _)
        rw [hn]
        by_cases h0 : n = 0
        · subst h0
          replace hG := hG.symm.trans (nameG_zero ha hn)
          clear hn256 hn
          obtain ⟨A4, c4, rfl, -⟩ := own_slice2 hNR.own
          have HJ := Lib.hid (join63 hNR.own rfl (by have := HMX.out; omega))
          obtain ⟨k, hk⟩ : ∃ k, acc.length = k := ⟨_, rfl⟩
          rw [hk] at HJ ⊢
          clear hk
          have HNR := Lib.hid hNR; have HCS := Lib.hid hCS; have HG := Lib.hid hG
          clear hNR hCS hG hsum
          go_wp2_with fail
          refine (HJ.out).mono ?_
          rintro e w5 ⟨J, rfl, hJ, hb5⟩
          have HJD := Lib.hid hJ
          have HCS5 := Lib.hid (HCS.out.step hb5)
          have HG5 := Lib.hid ((HNR.out.step hb5).grown)
          obtain ⟨A5, hp5, -⟩ := (HCS.out.step hb5).cut.at_
          have HBAD := Lib.hid (bad51 _ hp5)
          have hlen : J.data.toList.length = J.size := by simp
          clear hb5 hp5 HJ HNR HCS
          go_wp2_with fail
          refine (HBAD.out).mono ?_
          rintro e w6 ⟨rfl, rfl⟩
          clear HBAD
          by_cases hj : joinN acc = []
          · have hs0 : J = ⟨#[]⟩ := by
              apply ByteArray.ext
              rw [hj] at hJ
              exact Array.toList_inj.1 (by simpa using hJ)
            subst hs0
            clear hJ hlen
            have HX := Lib.hid (nameN_not HG.out (.inl hj))
            clear hj
            go_wp2_with fail
            refine bodyPost_ret (v := .tuple #[.string ⟨#[]⟩, .bool false]) ?_ rfl ?_
            · simp [results, Tryz.results48, go_sem]
              try first | rfl | omega
            · exact ⟨HG5.out, .inr ⟨HX.out, _, rfl⟩⟩
          · have hne : J.data.toList ≠ [] := by rw [hJ]; exact hj
            have hn : ¬ J.toList = [] := by rw [Lib.toList_data]; exact hne
            have hn2 : J.toList.isEmpty = false := by cases h : J.toList with
              | nil => exact absurd h hn
              | cons a b => rfl
            have HNE := Lib.hid hj
            by_cases h253 : J.size ≤ 253
            · have h253' : (J.size : Int) ≤ 253 := by omega
              have HX := Lib.hid (nameN_some HG.out hj (by rw [← hJ, hlen]; exact h253))
              clear hne hj hJ hlen h253
              go_wp2_with fail
              refine bodyPost_ret (v := .tuple #[.string J, .bool true]) ?_ rfl ?_
              · simp [results, Tryz.results48, go_sem]
                try first | rfl | omega
              · refine ⟨HG5.out, .inl ⟨_, _, HX.out, ?_, HCS5.out⟩⟩
                rw [← HJD.out]
            · have h253' : ¬ (J.size : Int) ≤ 253 := by omega
              have HX := Lib.hid (nameN_not HG.out (.inr (by rw [← hJ, hlen]; exact h253)))
              clear hne hj hJ hlen h253
              go_wp2_with fail
              refine bodyPost_ret (v := .tuple #[.string J, .bool false]) ?_ rfl ?_
              · simp [results, Tryz.results48, go_sem]
                try first | rfl | omega
              · exact ⟨HG5.out, .inr ⟨HX.out, _, rfl⟩⟩
        · have t1 : (0 : Int) < (n : Int) := by omega
          have hm0 := hCS.cut.left
          have hG' := hG
          have HNN := Lib.hid hn; have HAL := Lib.hid ha
          by_cases hf : a + 1 + n ≤ l.length
          · have HB := Lib.hid (bytes50_ok n _ hCS.cut (by omega) hf)
            have HNR := Lib.hid hNR; have HCS := Lib.hid hCS; have HG := Lib.hid hG; have HSUM := Lib.hid hsum; have HF := Lib.hid hf; have HM0 := Lib.hid hm0; have HN0 := Lib.hid h0; have HN256 := Lib.hid hn256
            clear hNR hCS hG hsum hG' hf hm0 hn h0 ha
            go_wp2_with fail
            refine (HB.out).mono ?_
            rintro e w2 ⟨rfl, k1, o1, k2⟩
            have hcv := str_conv (n := n) (cap := n) k1 HF.out
            obtain ⟨S, hS⟩ : ∃ S : ByteArray, S = ⟨(labU l (a + 1) n).toArray⟩ := ⟨_, rfl⟩
            rw [← hS] at hcv
            have hSd : S.data.toList = labU l (a + 1) n := by rw [hS]
            have hSz : S.size ≤ 256 := by rw [← ByteArray.size_data, ← Array.length_toList, hSd]; unfold labU; rw [List.length_map, List.length_take]; have := HN256.out; omega
            have HP := part67 S (by omega) w2
            rw [hSd] at HP
            have HP := Lib.hid HP
            have HNR2 := Lib.hid (HNR.out.turn k2)
            have HCS2 : Hid (CS w0 q kd v p g c (a + 1 + n) l w2) := Lib.hid (HCS.out.turn k1 k2)
            have HSD := Lib.hid hSd
            clear k1 k2 HB HNR HCS hS hSd
            go_wp2_with fail
            clear hcv
            refine (HP.out).mono ?_
            rintro e w3 ⟨rfl, hb3⟩
            have HNR3 := Lib.hid (HNR2.out.step hb3)
            have HCS3 := Lib.hid (HCS2.out.step hb3)
            clear hb3 HP HNR2 HCS2
            cases hpk : partOk (labU l (a + 1) n) with
            | false =>
              have HX : Hid (nameG l pos [] = none) := Lib.hid (HG.out.symm.trans (nameG_bad HAL.out (by rw [HNN.out]; exact HN0.out) (by rw [HNN.out]; exact hpk)))
              have HG3 := Lib.hid HNR3.out.grown
              clear hpk
              go_wp2_with fail
              refine bodyPost_ret (v := .tuple #[.string ⟨#[]⟩, .bool false]) ?_ rfl ?_
              · simp [results, Tryz.results48, go_sem]
                try rfl
              · exact ⟨HG3.out, .inr ⟨nameN_none HX.out, _, rfl⟩⟩
            | true =>
              have HGS : Hid (nameG l (a + 1 + n) (acc ++ [labU l (a + 1) n]) = nameG l pos []) := Lib.hid (by
                have := nameG_step (acc := acc) HAL.out (by rw [HNN.out]; exact HN0.out) (by rw [HNN.out]; exact HF.out) (by rw [HNN.out]; exact hpk)
                rw [HNN.out] at this
                exact this.symm.trans HG.out)
              obtain ⟨A4, c4, rfl, -⟩ := own_slice2 HNR3.out.own
              have hkl : acc.length ≤ 1000000000 := by have := HSUM.out; have := HMX.out; have := sum_len acc; have := HAL.out; omega
              obtain ⟨k, hk⟩ : ∃ k, acc.length = k := ⟨_, rfl⟩
              have hown := HNR3.out.own
              rw [hk] at hown hkl
              have HOWN := Lib.hid hown
              have HK := Lib.hid hk
              clear hpk hown
              rw [hk]
              clear hk
              go_wp2_with (at_builtin; refine wpList_append_own _ rfl _ _ 45 rfl w.heap.size 9 i9 (.string ByteArray.empty) 1 16 Tryz.underlying45 hi hz0 hz1 hz2 rfl (by decide) _ _ _ rfl (HOWN.out.alloc _) ⟨w3.heap.size, 0, none⟩ 1 1 [.string S] rfl rfl ?c2 ?c1 ?c3 ?c4 ?c5 ?_)
              case c2 =>
                intro j u hj
                rw [Addr.add_mid, Nat.zero_add]
                have c := cell_blk (heap_alloc_new w3 (.cells #[.string S] 9)) j
                exact c.trans (by simpa using hj)
              case c1 => intro u hu; simp only [List.mem_cons, List.not_mem_nil, or_false] at hu; subst hu; rfl
              case c3 => unfold maxLen; omega
              case c4 => omega
              case c5 => have := HNR3.out.grown.size; simp; omega
              intro v7 w7 ho7 hg7 _
              have hal : Below w3.heap.size w3 (w3.alloc (.cells #[.string S] 9)) := (Below.refl _ _).alloc (Nat.le_refl _) _
              have hN7 : NR w p (acc ++ [labU l (a + 1) n]) v7 w7 := (HNR3.out.step hal).add (by rw [HK.out]; exact hg7) (by
                have e1 : (acc ++ [labU l (a + 1) n]).length = k + 1 := by rw [List.length_append, HK.out]; rfl
                have e2 : strs (acc ++ [labU l (a + 1) n]) = strs acc ++ [.string S] := by
                  unfold strs
                  rw [List.map_append]
                  congr 1
                  simp only [List.map_cons, List.map_nil]
                  rw [← HSD.out]
                rw [e1, e2]; exact ho7)
              have hC7 := (HCS3.out.step hal).grown hg7 (fun j hj => HNR3.out.far hql hgl hsl (by
                rw [HK.out]
                exact hj))
              have HN7 := Lib.hid hN7
              have HC7 := Lib.hid hC7
              have HS7 : Hid (((acc ++ [labU l (a + 1) n]).map (fun s => s.length + 1)).sum ≤ a + 1 + n) := Lib.hid (by
                rw [List.map_append, List.sum_append]
                have := HSUM.out
                have h1 : (labU l (a + 1) n).length ≤ n := by unfold labU; rw [List.length_map, List.length_take]; omega
                simp only [List.map_cons, List.map_nil, List.sum_cons, List.sum_nil]
                omega)
              clear ho7 hg7 hal hN7 hC7 HNR3 HCS3 HOWN
              by_cases hq : a + 1 + n < l.length
              · obtain ⟨y, hy⟩ : ∃ y, l[a + 1 + n]? = some y := ⟨l[a + 1 + n], List.getElem?_eq_getElem _⟩
                have hy256 : y < 256 := H256.out _ (List.mem_of_getElem? hy)
                have HNM := Lib.hid (num49_ok _ HC7.out.cut hy hy256)
                have HY := Lib.hid hy
                have HQ := Lib.hid hq
                clear hy hq
                go_wp2_with fail
                refine (HNM.out).mono ?_
                rintro e w8 ⟨rfl, k1, o1, k2⟩
                have HN8 := Lib.hid (HN7.out.turn k2)
                have HC8 : Hid (CS w0 q kd v p g c (a + 1 + n + 1) l w8) := Lib.hid (HC7.out.turn k1 k2)
                clear k1 k2 HNM HN7 HC7
                go_wp2_with fail
                go_roundw
                case rel =>
                  unfold NRel
                  exact ⟨_, HN8.out, .inl ⟨a + 1 + n, HQ.out, by rw [List.getD_eq_getElem?_getD, HY.out]; rfl, HC8.out, HGS.out, HS7.out⟩⟩
                case measure => have h1 := HC8.out.cut.left; have h2 := HM0.out; have h3 := HQ.out; omega
              · have HX : Hid (nameG l pos [] = none) := Lib.hid (HGS.out.symm.trans (nameG_end hq))
                obtain ⟨A8, hp8, -⟩ := HC7.out.cut.at_
                have e0 : l.length - (a + 1 + n) = 0 := by omega
                rw [e0] at hp8
                have HNM := Lib.hid (num49_bad _ 0 hp8 (.inl rfl))
                have HQ := Lib.hid hq
                clear hp8 e0 hq
                go_wp2_with fail
                refine (HNM.out).mono ?_
                rintro e w8 ⟨rfl, k1, o1, k2⟩
                have HN8 := Lib.hid (HN7.out.turn k2)
                have HC8 := Lib.hid (HC7.out.spoil k1 k2)
                clear k1 k2 HNM HN7 HC7
                go_wp2_with fail
                go_roundw
                case rel =>
                  unfold NRel
                  exact ⟨_, HN8.out, .inr ⟨rfl, HC8.out, HX.out, by have := HS7.out; have := HF.out; omega⟩⟩
                case measure => have h1 := left_bad HC8.out.cut; have h2 := HM0.out; have h3 := HF.out; have h4 := HN0.out; omega
          · have HX : Hid (nameG l pos [] = none) := Lib.hid (hG.symm.trans (nameG_far ha (by rw [hn]; exact h0) (by rw [hn]; exact hf)))
            obtain ⟨A1, hp1, -⟩ := hCS.cut.at_
            have HB := Lib.hid (bytes50_bad (n : Int) _ hp1 (.inr (.inl (by omega))))
            have HNR := Lib.hid hNR
            clear hp1 hNR hCS hG hsum hG' hm0 hn ha hf h0
            go_wp2_with fail
            refine (HB.out).mono ?_
            rintro e w2 ⟨rfl, k1, o1, k2⟩
            have hcv := run_convert_bytes_nil (P := Tryz.prog) w2 22 5 Tryz.underlying22 Tryz.underlying5 0 0 9 Tryz.underlying9
            have HP := part67 ⟨#[]⟩ (by decide) w2
            have hpk : partOk (⟨#[]⟩ : ByteArray).data.toList = false := rfl
            rw [hpk] at HP
            have HP := Lib.hid HP
            have HNR2 := Lib.hid (HNR.out.turn k2)
            clear k1 k2 HB HNR hpk
            go_wp2_with fail
            clear hcv
            refine (HP.out).mono ?_
            rintro e w3 ⟨rfl, hb3⟩
            have HG3 := Lib.hid (HNR2.out.step hb3).grown
            clear hb3 HP HNR2
            go_wp2_with fail
            refine bodyPost_ret (v := .tuple #[.string ⟨#[]⟩, .bool false]) ?_ rfl ?_
            · simp [results, Tryz.results48, go_sem]
              try rfl
            · exact ⟨HG3.out, .inr ⟨nameN_none HX.out, _, rfl⟩⟩
      · obtain ⟨A4, c4, rfl, -⟩ := own_slice2 hNR.own
        have HJ := Lib.hid (join63 hNR.own rfl (by have := HMX.out; omega))
        obtain ⟨k, hk⟩ : ∃ k, acc.length = k := ⟨_, rfl⟩
        rw [hk] at HJ ⊢
        clear hk
        have HNR := Lib.hid hNR; have HCB := Lib.hid hCB; have HX := Lib.hid (nameN_none hG)
        clear hNR hCB hG hsum
        go_wp2_with fail
        refine (HJ.out).mono ?_
        rintro e w5 ⟨J, rfl, hJ, hb5⟩
        have HG5 := Lib.hid ((HNR.out.step hb5).grown)
        have HBAD := Lib.hid (bad51 w5 ((hb5.block p (lt_of_blk HCB.out.cut)).trans HCB.out.cut))
        clear hb5 hJ HJ HNR HCB
        go_wp2_with fail
        refine (HBAD.out).mono ?_
        rintro e w6 ⟨rfl, rfl⟩
        go_wp2_with fail
        refine bodyPost_ret (v := .tuple #[.string J, .bool false]) ?_ rfl ?_
        · simp [results, Tryz.results48, go_sem]
          try rfl
        · exact ⟨HG5.out, .inr ⟨HX.out, _, rfl⟩⟩
  · have HX := nameG_end (acc := []) hp
    have e0 : l.length - pos = 0 := by omega
    have hp0 := HP0.out
    rw [e0] at hp0
    have HNM := Lib.hid (num49_bad _ 0 hp0 (.inl rfl))
    have HXX := Lib.hid HX
    clear hp0 e0 HX hp
    go_wp2_with fail
    refine (HNM.out).mono ?_
    rintro e w8 ⟨rfl, k1, o1, k2⟩
    have HREL : Hid (NRel w w0 q kd v p g c l pos (.slice none 0 0) (.int .i64 0) w8) := Lib.hid ⟨[], ⟨World.ownsRow_nil _ _ _ _, k2.grown, hpl⟩, .inr ⟨rfl, HS.out.spoil k1 k2, HXX.out, by simp⟩⟩
    clear k1 k2 HNM HS HP0
    go_wp2_with fail
    go_loopw [4, 5] (fun v4 v5 wr => NRel w w0 q kd v p g c l pos v4 v5 wr) (fun _ _ wr => leftN wr p)
    case atStart => exact HREL.out
    case round =>
      clear HREL
      unfold NRel at hrel
      obtain ⟨acc, hNR, hcase⟩ := hrel
      rcases hcase with ⟨a, ha, rfl, hCS, hG, hsum⟩ | ⟨rfl, hCB, hG, hsum⟩
      · obtain ⟨n, hn⟩ : ∃ n, l.getD a 0 = n := ⟨_, rfl⟩
        have hn256 : n < 256 := by rw [← hn, List.getD_eq_getElem?_getD, List.getElem?_eq_getElem ha]; exact H256.out _ (List.getElem_mem _)
        rw [hn]
        by_cases h0 : n = 0
        · subst h0
          replace hG := hG.symm.trans (nameG_zero ha hn)
          clear hn256 hn
          obtain ⟨A4, c4, rfl, -⟩ := own_slice2 hNR.own
          have HJ := Lib.hid (join63 hNR.own rfl (by have := HMX.out; omega))
          obtain ⟨k, hk⟩ : ∃ k, acc.length = k := ⟨_, rfl⟩
          rw [hk] at HJ ⊢
          clear hk
          have HNR := Lib.hid hNR; have HCS := Lib.hid hCS; have HG := Lib.hid hG
          clear hNR hCS hG hsum
          go_wp2_with fail
          refine (HJ.out).mono ?_
          rintro e w5 ⟨J, rfl, hJ, hb5⟩
          have HJD := Lib.hid hJ
          have HCS5 := Lib.hid (HCS.out.step hb5)
          have HG5 := Lib.hid ((HNR.out.step hb5).grown)
          obtain ⟨A5, hp5, -⟩ := (HCS.out.step hb5).cut.at_
          have HBAD := Lib.hid (bad51 _ hp5)
          have hlen : J.data.toList.length = J.size := by simp
          clear hb5 hp5 HJ HNR HCS
          go_wp2_with fail
          refine (HBAD.out).mono ?_
          rintro e w6 ⟨rfl, rfl⟩
          clear HBAD
          by_cases hj : joinN acc = []
          · have hs0 : J = ⟨#[]⟩ := by
              apply ByteArray.ext
              rw [hj] at hJ
              exact Array.toList_inj.1 (by simpa using hJ)
            subst hs0
            clear hJ hlen
            have HX := Lib.hid (nameN_not HG.out (.inl hj))
            clear hj
            go_wp2_with fail
            refine bodyPost_ret (v := .tuple #[.string ⟨#[]⟩, .bool false]) ?_ rfl ?_
            · simp [results, Tryz.results48, go_sem]
              try first | rfl | omega
            · exact ⟨HG5.out, .inr ⟨HX.out, _, rfl⟩⟩
          · have hne : J.data.toList ≠ [] := by rw [hJ]; exact hj
            have hn : ¬ J.toList = [] := by rw [Lib.toList_data]; exact hne
            have hn2 : J.toList.isEmpty = false := by cases h : J.toList with
              | nil => exact absurd h hn
              | cons a b => rfl
            have HNE := Lib.hid hj
            by_cases h253 : J.size ≤ 253
            · have h253' : (J.size : Int) ≤ 253 := by omega
              have HX := Lib.hid (nameN_some HG.out hj (by rw [← hJ, hlen]; exact h253))
              clear hne hj hJ hlen h253
              go_wp2_with fail
              refine bodyPost_ret (v := .tuple #[.string J, .bool true]) ?_ rfl ?_
              · simp [results, Tryz.results48, go_sem]
                try first | rfl | omega
              · refine ⟨HG5.out, .inl ⟨_, _, HX.out, ?_, HCS5.out⟩⟩
                rw [← HJD.out]
            · have h253' : ¬ (J.size : Int) ≤ 253 := by omega
              have HX := Lib.hid (nameN_not HG.out (.inr (by rw [← hJ, hlen]; exact h253)))
              clear hne hj hJ hlen h253
              go_wp2_with fail
              refine bodyPost_ret (v := .tuple #[.string J, .bool false]) ?_ rfl ?_
              · simp [results, Tryz.results48, go_sem]
                try first | rfl | omega
              · exact ⟨HG5.out, .inr ⟨HX.out, _, rfl⟩⟩
        · have t1 : (0 : Int) < (n : Int) := by omega
          have hm0 := hCS.cut.left
          have hG' := hG
          have HNN := Lib.hid hn; have HAL := Lib.hid ha
          by_cases hf : a + 1 + n ≤ l.length
          · have HB := Lib.hid (bytes50_ok n _ hCS.cut (by omega) hf)
            have HNR := Lib.hid hNR; have HCS := Lib.hid hCS; have HG := Lib.hid hG; have HSUM := Lib.hid hsum; have HF := Lib.hid hf; have HM0 := Lib.hid hm0; have HN0 := Lib.hid h0; have HN256 := Lib.hid hn256
            clear hNR hCS hG hsum hG' hf hm0 hn h0 ha
            go_wp2_with fail
            refine (HB.out).mono ?_
            rintro e w2 ⟨rfl, k1, o1, k2⟩
            have hcv := str_conv (n := n) (cap := n) k1 HF.out
            obtain ⟨S, hS⟩ : ∃ S : ByteArray, S = ⟨(labU l (a + 1) n).toArray⟩ := ⟨_, rfl⟩
            rw [← hS] at hcv
            have hSd : S.data.toList = labU l (a + 1) n := by rw [hS]
            have hSz : S.size ≤ 256 := by rw [← ByteArray.size_data, ← Array.length_toList, hSd]; unfold labU; rw [List.length_map, List.length_take]; have := HN256.out; omega
            have HP := part67 S (by omega) w2
            rw [hSd] at HP
            have HP := Lib.hid HP
            have HNR2 := Lib.hid (HNR.out.turn k2)
            have HCS2 : Hid (CS w0 q kd v p g c (a + 1 + n) l w2) := Lib.hid (HCS.out.turn k1 k2)
            have HSD := Lib.hid hSd
            clear k1 k2 HB HNR HCS hS hSd
            go_wp2_with fail
            clear hcv
            refine (HP.out).mono ?_
            rintro e w3 ⟨rfl, hb3⟩
            have HNR3 := Lib.hid (HNR2.out.step hb3)
            have HCS3 := Lib.hid (HCS2.out.step hb3)
            clear hb3 HP HNR2 HCS2
            cases hpk : partOk (labU l (a + 1) n) with
            | false =>
              have HX : Hid (nameG l pos [] = none) := Lib.hid (HG.out.symm.trans (nameG_bad HAL.out (by rw [HNN.out]; exact HN0.out) (by rw [HNN.out]; exact hpk)))
              have HG3 := Lib.hid HNR3.out.grown
              clear hpk
              go_wp2_with fail
              refine bodyPost_ret (v := .tuple #[.string ⟨#[]⟩, .bool false]) ?_ rfl ?_
              · simp [results, Tryz.results48, go_sem]
                try rfl
              · exact ⟨HG3.out, .inr ⟨nameN_none HX.out, _, rfl⟩⟩
            | true =>
              have HGS : Hid (nameG l (a + 1 + n) (acc ++ [labU l (a + 1) n]) = nameG l pos []) := Lib.hid (by
                have := nameG_step (acc := acc) HAL.out (by rw [HNN.out]; exact HN0.out) (by rw [HNN.out]; exact HF.out) (by rw [HNN.out]; exact hpk)
                rw [HNN.out] at this
                exact this.symm.trans HG.out)
              obtain ⟨A4, c4, rfl, -⟩ := own_slice2 HNR3.out.own
              have hkl : acc.length ≤ 1000000000 := by have := HSUM.out; have := HMX.out; have := sum_len acc; have := HAL.out; omega
              obtain ⟨k, hk⟩ : ∃ k, acc.length = k := ⟨_, rfl⟩
              have hown := HNR3.out.own
              rw [hk] at hown hkl
              have HOWN := Lib.hid hown
              have HK := Lib.hid hk
              clear hpk hown
              rw [hk]
              clear hk
              go_wp2_with (at_builtin; refine wpList_append_own _ rfl _ _ 45 rfl w.heap.size 9 i9 (.string ByteArray.empty) 1 16 Tryz.underlying45 hi hz0 hz1 hz2 rfl (by decide) _ _ _ rfl (HOWN.out.alloc _) ⟨w3.heap.size, 0, none⟩ 1 1 [.string S] rfl rfl ?c2 ?c1 ?c3 ?c4 ?c5 ?_)
              case c2 =>
                intro j u hj
                rw [Addr.add_mid, Nat.zero_add]
                have c := cell_blk (heap_alloc_new w3 (.cells #[.string S] 9)) j
                exact c.trans (by simpa using hj)
              case c1 => intro u hu; simp only [List.mem_cons, List.not_mem_nil, or_false] at hu; subst hu; rfl
              case c3 => unfold maxLen; omega
              case c4 => omega
              case c5 => have := HNR3.out.grown.size; simp; omega
              intro v7 w7 ho7 hg7 _
              have hal : Below w3.heap.size w3 (w3.alloc (.cells #[.string S] 9)) := (Below.refl _ _).alloc (Nat.le_refl _) _
              have hN7 : NR w p (acc ++ [labU l (a + 1) n]) v7 w7 := (HNR3.out.step hal).add (by rw [HK.out]; exact hg7) (by
                have e1 : (acc ++ [labU l (a + 1) n]).length = k + 1 := by rw [List.length_append, HK.out]; rfl
                have e2 : strs (acc ++ [labU l (a + 1) n]) = strs acc ++ [.string S] := by
                  unfold strs
                  rw [List.map_append]
                  congr 1
                  simp only [List.map_cons, List.map_nil]
                  rw [← HSD.out]
                rw [e1, e2]; exact ho7)
              have hC7 := (HCS3.out.step hal).grown hg7 (fun j hj => HNR3.out.far hql hgl hsl (by
                rw [HK.out]
                exact hj))
              have HN7 := Lib.hid hN7
              have HC7 := Lib.hid hC7
              have HS7 : Hid (((acc ++ [labU l (a + 1) n]).map (fun s => s.length + 1)).sum ≤ a + 1 + n) := Lib.hid (by
                rw [List.map_append, List.sum_append]
                have := HSUM.out
                have h1 : (labU l (a + 1) n).length ≤ n := by unfold labU; rw [List.length_map, List.length_take]; omega
                simp only [List.map_cons, List.map_nil, List.sum_cons, List.sum_nil]
                omega)
              clear ho7 hg7 hal hN7 hC7 HNR3 HCS3 HOWN
              by_cases hq : a + 1 + n < l.length
              · obtain ⟨y, hy⟩ : ∃ y, l[a + 1 + n]? = some y := ⟨l[a + 1 + n], List.getElem?_eq_getElem _⟩
                have hy256 : y < 256 := H256.out _ (List.mem_of_getElem? hy)
                have HNM := Lib.hid (num49_ok _ HC7.out.cut hy hy256)
                have HY := Lib.hid hy
                have HQ := Lib.hid hq
                clear hy hq
                go_wp2_with fail
                refine (HNM.out).mono ?_
                rintro e w8 ⟨rfl, k1, o1, k2⟩
                have HN8 := Lib.hid (HN7.out.turn k2)
                have HC8 : Hid (CS w0 q kd v p g c (a + 1 + n + 1) l w8) := Lib.hid (HC7.out.turn k1 k2)
                clear k1 k2 HNM HN7 HC7
                go_wp2_with fail
                go_roundw
                case rel =>
                  unfold NRel
                  exact ⟨_, HN8.out, .inl ⟨a + 1 + n, HQ.out, by rw [List.getD_eq_getElem?_getD, HY.out]; rfl, HC8.out, HGS.out, HS7.out⟩⟩
                case measure => have h1 := HC8.out.cut.left; have h2 := HM0.out; have h3 := HQ.out; omega
              · have HX : Hid (nameG l pos [] = none) := Lib.hid (HGS.out.symm.trans (nameG_end hq))
                obtain ⟨A8, hp8, -⟩ := HC7.out.cut.at_
                have e0 : l.length - (a + 1 + n) = 0 := by omega
                rw [e0] at hp8
                have HNM := Lib.hid (num49_bad _ 0 hp8 (.inl rfl))
                have HQ := Lib.hid hq
                clear hp8 e0 hq
                go_wp2_with fail
                refine (HNM.out).mono ?_
                rintro e w8 ⟨rfl, k1, o1, k2⟩
                have HN8 := Lib.hid (HN7.out.turn k2)
                have HC8 := Lib.hid (HC7.out.spoil k1 k2)
                clear k1 k2 HNM HN7 HC7
                go_wp2_with fail
                go_roundw
                case rel =>
                  unfold NRel
                  exact ⟨_, HN8.out, .inr ⟨rfl, HC8.out, HX.out, by have := HS7.out; have := HF.out; omega⟩⟩
                case measure => have h1 := left_bad HC8.out.cut; have h2 := HM0.out; have h3 := HF.out; have h4 := HN0.out; omega
          · have HX : Hid (nameG l pos [] = none) := Lib.hid (hG.symm.trans (nameG_far ha (by rw [hn]; exact h0) (by rw [hn]; exact hf)))
            obtain ⟨A1, hp1, -⟩ := hCS.cut.at_
            have HB := Lib.hid (bytes50_bad (n : Int) _ hp1 (.inr (.inl (by omega))))
            have HNR := Lib.hid hNR
            clear hp1 hNR hCS hG hsum hG' hm0 hn ha hf h0
            go_wp2_with fail
            refine (HB.out).mono ?_
            rintro e w2 ⟨rfl, k1, o1, k2⟩
            have hcv := run_convert_bytes_nil (P := Tryz.prog) w2 22 5 Tryz.underlying22 Tryz.underlying5 0 0 9 Tryz.underlying9
            have HP := part67 ⟨#[]⟩ (by decide) w2
            have hpk : partOk (⟨#[]⟩ : ByteArray).data.toList = false := rfl
            rw [hpk] at HP
            have HP := Lib.hid HP
            have HNR2 := Lib.hid (HNR.out.turn k2)
            clear k1 k2 HB HNR hpk
            go_wp2_with fail
            clear hcv
            refine (HP.out).mono ?_
            rintro e w3 ⟨rfl, hb3⟩
            have HG3 := Lib.hid (HNR2.out.step hb3).grown
            clear hb3 HP HNR2
            go_wp2_with fail
            refine bodyPost_ret (v := .tuple #[.string ⟨#[]⟩, .bool false]) ?_ rfl ?_
            · simp [results, Tryz.results48, go_sem]
              try rfl
            · exact ⟨HG3.out, .inr ⟨nameN_none HX.out, _, rfl⟩⟩
      · obtain ⟨A4, c4, rfl, -⟩ := own_slice2 hNR.own
        have HJ := Lib.hid (join63 hNR.own rfl (by have := HMX.out; omega))
        obtain ⟨k, hk⟩ : ∃ k, acc.length = k := ⟨_, rfl⟩
        rw [hk] at HJ ⊢
        clear hk
        have HNR := Lib.hid hNR; have HCB := Lib.hid hCB; have HX := Lib.hid (nameN_none hG)
        clear hNR hCB hG hsum
        go_wp2_with fail
        refine (HJ.out).mono ?_
        rintro e w5 ⟨J, rfl, hJ, hb5⟩
        have HG5 := Lib.hid ((HNR.out.step hb5).grown)
        have HBAD := Lib.hid (bad51 w5 ((hb5.block p (lt_of_blk HCB.out.cut)).trans HCB.out.cut))
        clear hb5 hJ HJ HNR HCB
        go_wp2_with fail
        refine (HBAD.out).mono ?_
        rintro e w6 ⟨rfl, rfl⟩
        go_wp2_with fail
        refine bodyPost_ret (v := .tuple #[.string J, .bool false]) ?_ rfl ?_
        · simp [results, Tryz.results48, go_sem]
          try rfl
        · exact ⟨HG5.out, .inr ⟨HX.out, _, rfl⟩⟩
end Go.Proofs.YtfolamkjlgpgmaaGreatDoor

/- The rest of a cutter: the walk. No condition. (Printed by gRest.py.) -/
namespace Go.Proofs.YtfolamkjlgpgmaaGreatDoor
open Go.RowKit
set_option linter.unusedVariables false
set_option linter.unusedSimpArgs false
set_option maxRecDepth 100000 in
set_option maxHeartbeats 1000000 in
theorem take54_zero {p g c : Nat} {bs : List Nat} (w : World) (h : CutAt w p g c bs.length bs) :
    Calls Tryz.prog 69 #[.pointer (some ⟨p, 0, none⟩), .int .i64 0] w fun e w' => (∃ A n k, e = .returned (.slice A n k)) ∧ CutAt w' p g c bs.length bs ∧ ∃ o, Turned p o w w' := by
  obtain ⟨A, hp, -⟩ := h.at_
  rw [Nat.sub_self] at hp
  obtain ⟨m, hm⟩ : ∃ m, c - bs.length = m := ⟨_, rfl⟩
  have HT := fun A : Option Addr => Lib.hid (Turned.setCell hp 0 (.slice A 0 (c - bs.length)))
  have HTn := fun A : Option Addr => Lib.hid (h.turn (A := A) (Nat.le_refl _) (fun hl => absurd hl (Nat.lt_irrefl _)) (by rw [Nat.sub_self]; exact Turned.setCell hp 0 (.slice A 0 (c - bs.length))))
  rw [hm] at hp HT HTn
  have c0 := cell_blk hp 0
  have c1 := cell_blk hp 1
  have f0 := frozen_blk hp 0
  simp only [List.getElem?_toArray, List.getElem?_cons_zero, List.getElem?_cons_succ] at c0 c1
  clear hp h hm
  cases A with
  | none =>
    have HX := HTn none; have HY := HT none
    clear HTn HT
    go_enter Tryz.func69, Tryz.ntmps69
    go_wp2_with fail
    go_ret
    exact ⟨⟨_, _, _, rfl⟩, HX.out, _, HY.out⟩
  | some ad =>
    have HX := HTn (some ad); have HY := HT (some ad)
    clear HTn HT
    by_cases hm0 : m = 0
    · subst hm0
      go_enter Tryz.func69, Tryz.ntmps69
      go_wp2_with fail
      go_ret
      exact ⟨⟨_, _, _, rfl⟩, HX.out, _, HY.out⟩
    · have hm1 : 0 < m := by omega
      go_enter Tryz.func69, Tryz.ntmps69
      go_wp2_with fail
      trace_state
      go_ret
      exact ⟨⟨_, _, _, rfl⟩, HX.out, _, HY.out⟩
end Go.Proofs.YtfolamkjlgpgmaaGreatDoor
