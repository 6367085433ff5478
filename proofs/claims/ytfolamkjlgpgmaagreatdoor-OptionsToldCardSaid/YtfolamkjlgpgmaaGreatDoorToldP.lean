/- What is read from an option, by the program and by the document: the same. No program in sight beyond sizes and types. No condition beyond that bytes are bytes. (Printed by gToldP.py.) -/
import Derived.Test.YtfolamkjlgpgmaaGreatDoorMixC
import Derived.Test.YtfolamkjlgpgmaaGreatDoorRdD
import Derived.Test.YtfolamkjlgpgmaaGreatDoorSameO
namespace Go.Proofs.YtfolamkjlgpgmaaGreatDoor
open Go.RowKit
set_option linter.unusedVariables false
set_option linter.unusedSimpArgs false
theorem mac_eqIn {m : Nat → Nat} (hy : ∀ j, j < 6 → m j < 256) (W : World) : (Op.equalIn 10000 28 (.agg #[.int .u8 (m 0 : Int), .int .u8 (m 1 : Int), .int .u8 (m 2 : Int), .int .u8 (m 3 : Int), .int .u8 (m 4 : Int), .int .u8 (m 5 : Int)]) (.agg #[.int .u8 (m 0 : Int), .int .u8 (m 1 : Int), .int .u8 (m 2 : Int), .int .u8 (m 3 : Int), .int .u8 (m 4 : Int), .int .u8 (m 5 : Int)])).run Tryz.prog W = .ok true W := by
  have e : (#[.int .u8 (m 0 : Int), .int .u8 (m 1 : Int), .int .u8 (m 2 : Int), .int .u8 (m 3 : Int), .int .u8 (m 4 : Int), .int .u8 (m 5 : Int)] : Array Value) = (((List.range 6).map fun i => UInt8.ofNat (m i)).map Extern.Stop.cell).toArray := by
    rw [List.map_map]
    simp only [show List.range 6 = [0, 1, 2, 3, 4, 5] from rfl, List.map_cons, List.map_nil, Function.comp]
    rw [u8_cell (hy 0 (by decide)), u8_cell (hy 1 (by decide)), u8_cell (hy 2 (by decide)), u8_cell (hy 3 (by decide)), u8_cell (hy 4 (by decide)), u8_cell (hy 5 (by decide))]
  rw [e, show (10000 : Nat) = 9998 + 2 from rfl, run_equalIn_bytes W 9998 28 5 6 (by kernel_rfl) (by kernel_rfl) size5 _ _ (by simp) (by simp)]
  simp
set_option maxRecDepth 100000 in
set_option maxHeartbeats 1000000 in
theorem info_eqIn {y : Nat → Nat} {b u z : Nat} {on auto : Bool} (hy : ∀ j, j < 16 → y j < 256) (W : World) : (Op.equalIn 10000 37 (.agg #[.int .u8 (y 0 : Int), .int .u8 (y 1 : Int), .int .u8 (y 2 : Int), .int .u8 (y 3 : Int), .int .u8 (y 4 : Int), .int .u8 (y 5 : Int), .int .u8 (y 6 : Int), .int .u8 (y 7 : Int), .int .u8 (y 8 : Int), .int .u8 (y 9 : Int), .int .u8 (y 10 : Int), .int .u8 (y 11 : Int), .int .u8 (y 12 : Int), .int .u8 (y 13 : Int), .int .u8 (y 14 : Int), .int .u8 (y 15 : Int), .int .u8 (b : Int), .bool on, .bool auto, .int .u32 (u : Int), .int .u32 (z : Int)]) (.agg #[.int .u8 (y 0 : Int), .int .u8 (y 1 : Int), .int .u8 (y 2 : Int), .int .u8 (y 3 : Int), .int .u8 (y 4 : Int), .int .u8 (y 5 : Int), .int .u8 (y 6 : Int), .int .u8 (y 7 : Int), .int .u8 (y 8 : Int), .int .u8 (y 9 : Int), .int .u8 (y 10 : Int), .int .u8 (y 11 : Int), .int .u8 (y 12 : Int), .int .u8 (y 13 : Int), .int .u8 (y 14 : Int), .int .u8 (y 15 : Int), .int .u8 (b : Int), .bool on, .bool auto, .int .u32 (u : Int), .int .u32 (z : Int)])).run Tryz.prog W = .ok true W := by
  have hA := adr_eqIn hy
  have f30 : Tryz.prog.fieldsOf 37 = #[{ name := "Prefix", type := 34, offset := 0, embedded := false, tag := "", pkgPath := "", byteOffset := 0 }, { name := "OnLink", type := 4, offset := 17, embedded := false, tag := "", pkgPath := "", byteOffset := 17 }, { name := "Auto", type := 4, offset := 18, embedded := false, tag := "", pkgPath := "", byteOffset := 18 }, { name := "Valid", type := 35, offset := 19, embedded := false, tag := "", pkgPath := "", byteOffset := 20 }, { name := "Preferred", type := 35, offset := 20, embedded := false, tag := "", pkgPath := "", byteOffset := 24 }] := by kernel_rfl
  have f27 : Tryz.prog.fieldsOf 34 = #[{ name := "Addr", type := 32, offset := 0, embedded := false, tag := "", pkgPath := "", byteOffset := 0 }, { name := "Bits", type := 5, offset := 16, embedded := false, tag := "", pkgPath := "", byteOffset := 16 }] := by kernel_rfl
  have h27 : ∀ d xs ys, (Op.equalIn (d + 1) 34 (.agg xs) (.agg ys)).run Tryz.prog W = (Op.eqFields d xs ys (Tryz.prog.fieldsOf 34).toList).run Tryz.prog W := fun d xs ys => run_equalIn_agg W d 34 xs ys (by kernel_rfl) (by kernel_rfl)
  rw [run_equalIn_agg W 9999 37 _ _ (by kernel_rfl) (by kernel_rfl)]
  go_simp
theorem strs_map (T : List ByteArray) : strs (T.map (·.data.toList)) = T.map Value.string := by
  unfold strs
  rw [List.map_map]
  congr 1
theorem own_doms {W : World} {B k c : Nat} {A : Option Addr} {T : List ByteArray} (ho : W.ownsRow B 9 1 (.slice A k c) k (T.map Value.string)) (hk : T.length = k) (hz : ∀ s ∈ T, s.size ≤ 4000) (hm : k ≤ 4000) : DomsAt W W.heap.size A T := by
  refine ⟨fun hne => ?_, hz, by omega⟩
  rcases ho.2 with ⟨e, h0⟩ | ⟨g, cap, cur, e, hb, hg, hn, hm2, hs, ht⟩
  · exact absurd (List.eq_nil_of_length_eq_zero (by omega)) hne
  · cases e
    refine ⟨g, 0, rfl, lt_of_blk hg, fun i s hs1 => ?_⟩
    have hi : i < T.length := (List.getElem?_eq_some_iff.1 hs1).1
    have h1 : (T.map Value.string)[i]? = some (.string s) := by rw [List.getElem?_map, hs1]; rfl
    rw [← ht, List.getElem?_take_of_lt (by omega)] at h1
    rw [Nat.zero_add, cell_blk hg]
    simpa using h1
theorem own_adrs {W : World} {B k c : Nat} {A : Option Addr} {S : List (Nat → Nat)} (ho : W.ownsRow B 32 16 (.slice A k c) k (row8 (adrsB S))) (hk : S.length = k) (hm : k ≤ 1000000) : AdrsAt W W.heap.size A S := by
  refine ⟨fun hne => ?_, by omega⟩
  rcases ho.2 with ⟨e, h0⟩ | ⟨g, cap, cur, e, hb, hg, hn, hm2, hs, ht⟩
  · exact absurd (List.eq_nil_of_length_eq_zero (by omega)) hne
  · cases e
    refine ⟨g, 0, rfl, lt_of_blk hg, fun i y hy j hj => ?_⟩
    have hi : i < S.length := (List.getElem?_eq_some_iff.1 hy).1
    have h1 : (row8 (adrsB S))[i * 16 + j]? = some (.int .u8 (y j : Int)) := by
      have e2 : adrsB S = adrsB (S.take i) ++ (adr16 y ++ adrsB (S.drop (i + 1))) := by
        conv => lhs; rw [← List.take_append_drop i S, List.drop_eq_getElem_cons hi, (List.getElem?_eq_some_iff.1 hy).2]
        unfold adrsB
        rw [List.flatMap_append, List.flatMap_cons]
      have el : (adrsB (S.take i)).length = i * 16 := by rw [adrsB_length, List.length_take]; congr 1; omega
      rw [e2, row8_append, row8_append, List.getElem?_append_right (by rw [row8_length, el]; omega), row8_length, el, Nat.add_sub_cancel_left, List.getElem?_append_left (by rw [row8_length]; simpa [adr16] using hj)]
      exact adr16_get y hj
    have hlt : i * 16 + j < k * 16 := by omega
    rw [← ht, List.getElem?_take_of_lt hlt] at h1
    rw [Nat.zero_add, cell_blk hg]
    simpa using h1
theorem getD_lt {l : List Nat} (h : ∀ x ∈ l, x < 256) (j : Nat) : l.getD j 0 < 256 := by
  rw [List.getD_eq_getElem?_getD]
  cases e : l[j]? with
  | none => simp
  | some x => exact h x (List.mem_of_getElem? e)
/-- an array of as many cells as a mac has, that is equal to itself -/
theorem mac_fine {kd : Nat} {l : List Nat} (h : ∀ x ∈ l, x < 256) : ∃ M : Array Value, M = (if l.length = 6 ∧ (kd == 1 || kd == 2) = true then macC l else #[.int .u8 0, .int .u8 0, .int .u8 0, .int .u8 0, .int .u8 0, .int .u8 0]) ∧ M.size = 6 ∧ M.all (·.oneCell') = true ∧ ∀ W, (Op.equalIn 10000 28 (.agg M) (.agg M)).run Tryz.prog W = .ok true W := by
  refine ⟨_, rfl, ?_, ?_, fun W => ?_⟩
  · split <;> rfl
  · split <;> simp [macC, Value.oneCell']
  · split
    · exact mac_eqIn (m := fun j => l.getD j 0) (fun j _ => getD_lt h j) W
    · exact mac_eqIn (m := fun _ => 0) (fun j _ => by decide) W
theorem pre_fine {kd : Nat} {l : List Nat} (h : ∀ x ∈ l, x < 256) : ∃ M : Array Value, M = (if l.length = 30 ∧ (kd == 3 && decide (num1 l 0 1 ≤ 128)) = true then preC l else #[.int .u8 0, .int .u8 0, .int .u8 0, .int .u8 0, .int .u8 0, .int .u8 0, .int .u8 0, .int .u8 0, .int .u8 0, .int .u8 0, .int .u8 0, .int .u8 0, .int .u8 0, .int .u8 0, .int .u8 0, .int .u8 0, .int .u8 0, .bool false, .bool false, .int .u32 0, .int .u32 0]) ∧ M.size = 21 ∧ M.all (·.oneCell') = true ∧ ∃ (y : Nat → Nat) (b u z : Nat) (on auto : Bool), (∀ j, j < 16 → y j < 256) ∧ M = #[.int .u8 (y 0 : Int), .int .u8 (y 1 : Int), .int .u8 (y 2 : Int), .int .u8 (y 3 : Int), .int .u8 (y 4 : Int), .int .u8 (y 5 : Int), .int .u8 (y 6 : Int), .int .u8 (y 7 : Int), .int .u8 (y 8 : Int), .int .u8 (y 9 : Int), .int .u8 (y 10 : Int), .int .u8 (y 11 : Int), .int .u8 (y 12 : Int), .int .u8 (y 13 : Int), .int .u8 (y 14 : Int), .int .u8 (y 15 : Int), .int .u8 (b : Int), .bool on, .bool auto, .int .u32 (u : Int), .int .u32 (z : Int)] := by
  refine ⟨_, rfl, ?_, ?_, ?_⟩
  · split <;> rfl
  · split <;> simp [preC, Value.oneCell']
  · split
    · exact ⟨masked (adrOf l) (num1 l 0 1), num1 l 0 1, num1 l 2 4, num1 l 6 4, _, _, fun j _ => Nat.lt_of_le_of_lt (Nat.div_mul_le_self _ _) (getD_lt h _), rfl⟩
    · exact ⟨fun _ => 0, 0, 0, 0, false, false, fun j _ => (by decide : (0 : Nat) < 256), rfl⟩
/-- the servers of an option -/
def srvL (kd : Nat) (l : List Nat) : List (Nat → Nat) := if isSrv kd l then adrsOf l (adN l) else []
def srvX (kd : Nat) (l : List Nat) : Nat := if isSrv kd l then num1 l 2 4 else 0
theorem adrsOf_len (l : List Nat) : (adrsOf l (adN l)).length = adN l := adrsOf_length l _
theorem srvU {kd : Nat} {l : List Nat} {w w' : World} {e : Ending} (h : ListPost w l (isSrv kd l) e w') : ∃ S k, e = .returned (.tuple #[.int .u32 (srvX kd l : Nat), .slice S (srvL kd l).length (srvL kd l).length, .bool (isSrv kd l)]) ∧ Below w.heap.size w w' ∧ (srvL kd l).length ≤ k ∧ w'.ownsRow w.heap.size 32 16 (.slice S (srvL kd l).length k) (srvL kd l).length (row8 (adrsB (srvL kd l))) := by
  obtain ⟨hb, h⟩ := h
  unfold srvL srvX
  rcases h with ⟨hr, rfl⟩ | ⟨hr, A, k, rfl, hk, ho⟩
  · rw [hr]
    exact ⟨none, 0, rfl, hb, Nat.le_refl _, World.ownsRow_nil _ _ _ _⟩
  · rw [hr]
    simp only [if_true, adrsOf_len]
    exact ⟨A, k, rfl, hb, hk, ho⟩
theorem srvR {kd : Nat} {l : List Nat} {w w' : World} {e : Ending} (h : SrvRef w l (isSrv kd l) e w') : ∃ S k, e = .returned (.tuple #[.int .u32 (srvX kd l : Nat), .slice S (srvL kd l).length k, .bool (isSrv kd l)]) ∧ Below w.heap.size w w' ∧ w'.ownsRow w.heap.size 32 16 (.slice S (srvL kd l).length k) (srvL kd l).length (row8 (adrsB (srvL kd l))) := by
  obtain ⟨hb, h⟩ := h
  unfold srvL srvX
  rcases h with ⟨hr, rfl⟩ | ⟨hr, A, k, rfl, ho⟩
  · rw [hr]
    exact ⟨none, 0, rfl, hb, World.ownsRow_nil _ _ _ _⟩
  · rw [hr]
    simp only [if_true, adrsOf_len]
    exact ⟨A, k, rfl, hb, ho⟩
/-- the names of an option -/
def domsL (kd : Nat) (l : List Nat) : List ByteArray := ((isDom kd l).getD []).map fun s => ⟨s.toArray⟩
def domX (kd : Nat) (l : List Nat) : Nat := if (isDom kd l).isSome then num1 l 2 4 else 0
theorem domsL_some {kd : Nat} {l : List Nat} {acc : List (List UInt8)} (h : isDom kd l = some acc) : (domsL kd l).length = acc.length ∧ (domsL kd l).map Value.string = strs acc := by
  unfold domsL
  rw [h]
  refine ⟨by simp, ?_⟩
  simp [strs, Function.comp_def]
theorem domU {kd : Nat} {l : List Nat} {w w' : World} {e : Ending} (h : NamesPost w kd l e w') : ∃ S k, e = .returned (.tuple #[.int .u32 (domX kd l : Nat), .slice S (domsL kd l).length (domsL kd l).length, .bool (isDom kd l).isSome]) ∧ Below w.heap.size w w' ∧ (domsL kd l).length ≤ k ∧ w'.ownsRow w.heap.size 9 1 (.slice S (domsL kd l).length k) (domsL kd l).length ((domsL kd l).map Value.string) := by
  obtain ⟨hb, h⟩ := h
  rcases h with ⟨hr, rfl⟩ | ⟨acc, A, k, hr, rfl, hk, ho⟩
  · unfold domsL domX
    rw [hr]
    exact ⟨none, 0, rfl, hb, Nat.le_refl _, World.ownsRow_nil _ _ _ _⟩
  · obtain ⟨h1, h2⟩ := domsL_some hr
    unfold domX
    rw [h1, h2, hr]
    exact ⟨A, k, rfl, hb, hk, ho⟩
theorem domR {kd : Nat} {l : List Nat} {w w' : World} {e : Ending} (h : NamesRef w kd l e w') : ∃ S k, e = .returned (.tuple #[.int .u32 (domX kd l : Nat), .slice S (domsL kd l).length k, .bool (isDom kd l).isSome]) ∧ Below w.heap.size w w' ∧ w'.ownsRow w.heap.size 9 1 (.slice S (domsL kd l).length k) (domsL kd l).length ((domsL kd l).map Value.string) := by
  obtain ⟨hb, h⟩ := h
  rcases h with ⟨hr, rfl⟩ | ⟨acc, A, k, hr, rfl, ho⟩
  · unfold domsL domX
    rw [hr]
    exact ⟨none, 0, rfl, hb, World.ownsRow_nil _ _ _ _⟩
  · obtain ⟨h1, h2⟩ := domsL_some hr
    unfold domX
    rw [h1, h2, hr]
    exact ⟨A, k, rfl, hb, ho⟩
theorem nameN_le {l : List Nat} {pos p : Nat} {s : List UInt8} (h : nameN l pos = some (p, s)) : s.length ≤ 253 := by
  unfold nameN at h
  split at h
  · split at h
    · rename_i h2
      simp only [Option.some.injEq, Prod.mk.injEq] at h
      rw [← h.2]; exact h2.2
    · cases h
  · cases h
theorem domO_fine {l : List Nat} {fl : Nat} (hfl : fl ≤ l.length) : ∀ f pos acc acc', domO l fl f pos acc = some acc' → (∀ s ∈ acc, s.length ≤ 253) → acc.length ≤ pos → pos ≤ l.length → (∀ s ∈ acc', s.length ≤ 253) ∧ acc'.length ≤ l.length
  | 0, pos, acc, acc', h, _, _, _ => by cases h
  | f + 1, pos, acc, acc', h, ha, hl, hp => by
    unfold domO at h
    split at h
    · cases hn : nameN l pos with
      | none => rw [hn] at h; cases h
      | some ps =>
        obtain ⟨p, s⟩ := ps
        rw [hn] at h
        have h1 := nameN_pos hn
        refine domO_fine hfl f p (acc ++ [s]) acc' h (fun t ht => ?_) (by rw [List.length_append, List.length_singleton]; omega) h1.2
        rcases List.mem_append.1 ht with ht | ht
        · exact ha t ht
        · rw [List.mem_singleton] at ht; rw [ht]; exact nameN_le hn
    · cases h; exact ⟨ha, by omega⟩
theorem domsL_fine {kd : Nat} {l : List Nat} (hl : l.length ≤ 3000) : (∀ s ∈ domsL kd l, s.size ≤ 4000) ∧ (domsL kd l).length ≤ 4000 := by
  cases h : isDom kd l with
  | none => unfold domsL; rw [h]; exact ⟨by simp, by simp⟩
  | some acc =>
    have h2 := h
    unfold isDom at h2
    split at h2
    · rename_i h6
      have : domG l (fullL l) 6 [] = some acc := by
        cases e : domG l (fullL l) 6 [] with
        | none => rw [e] at h2; cases h2
        | some a => rw [e] at h2; cases a with
          | nil => cases h2
          | cons x xs => exact h2
      obtain ⟨q1, q2⟩ := domO_fine (fullL_le l) _ _ _ _ this (by simp) (by simp) h6.1
      refine ⟨fun s hs => ?_, by rw [(domsL_some h).1]; omega⟩
      unfold domsL at hs
      rw [h] at hs
      obtain ⟨t, ht, rfl⟩ := List.mem_map.1 hs
      have := q1 t ht
      simp [ByteArray.size]; omega
    · cases h2
theorem srvL_fine {kd : Nat} {l : List Nat} (hl : l.length ≤ 3000) (h : ∀ x ∈ l, x < 256) : (srvL kd l).length ≤ 1000000 ∧ ∀ y ∈ srvL kd l, ∀ j, j < 16 → y j < 256 := by
  unfold srvL
  split
  · refine ⟨by rw [adrsOf_len]; unfold adN; omega, fun y hy j _ => ?_⟩
    unfold adrsOf at hy
    obtain ⟨i, _, rfl⟩ := List.mem_map.1 hy
    exact getD_lt h _
  · exact ⟨by simp, by simp⟩
/-- a list of one's own as a span -/
theorem gs_own {w : World} {B T k m c hi : Nat} {S : Option Addr} {xs : List Value} (h : w.ownsRow B T k (.slice S m c) m xs) (hk2 : k ≤ 16) (hm : m ≤ 1000000) (hhi : w.heap.size ≤ hi) : GsIn B hi w ⟨S, m, m, T, k⟩ := by
  rcases h.2 with ⟨e, h0⟩ | ⟨g, cap, cur, e, hb, hg, hn, hm2, hs, ht⟩
  · cases e
    exact ⟨Nat.le_refl _, by simp, .inl ⟨rfl, rfl⟩⟩
  · cases e
    have hmk : m * k ≤ c * k := Nat.mul_le_mul_right k hn
    have hck : m * k ≤ m * 16 := Nat.mul_le_mul_left m hk2
    refine ⟨Nat.le_refl _, by show m * k ≤ _; omega, .inr ⟨g, 0, cur, rfl, hb, by have := lt_of_blk hg; omega, hg, by show 0 + m * k ≤ _; rw [hs]; omega⟩⟩
theorem GsIn.keep {lo hi : Nat} {w w' : World} {x : Gs} (h : GsIn lo hi w x) (hb : Below hi w w') : GsIn lo hi w' x := by
  refine ⟨h.fit, h.max, ?_⟩
  rcases h.at_ with h1 | ⟨g, o, cs, h1, h2, h3, h4, h5⟩
  · exact .inl h1
  · exact .inr ⟨g, o, cs, h1, h2, h3, (hb.block g h3).trans h4, h5⟩
theorem GsIn.widen {lo lo2 hi hi2 : Nat} {w : World} {x : Gs} (h : GsIn lo hi w x) (h1 : lo2 ≤ lo) (h2 : hi ≤ hi2) : GsIn lo2 hi2 w x := by
  refine ⟨h.fit, h.max, ?_⟩
  rcases h.at_ with h3 | ⟨g, o, cs, q1, q2, q3, q4, q5⟩
  · exact .inl h3
  · exact .inr ⟨g, o, cs, q1, by omega, by omega, q4, q5⟩
end Go.Proofs.YtfolamkjlgpgmaaGreatDoor

