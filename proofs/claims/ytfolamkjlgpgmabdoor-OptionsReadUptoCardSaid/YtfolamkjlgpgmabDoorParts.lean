/- A name's parts, the document's way: the walk. No condition but that the text is short. -/
import Derived.Test.YtfolamkjlgpgmabDoorDoms
namespace Go.Proofs.YtfolamkjlgpgmabDoor
open Go.RowKit
set_option linter.unusedVariables false
set_option linter.unusedSimpArgs false
theorem extr (s : ByteArray) (f k : Nat) : (s.extract f k).data.toList = (s.data.toList.drop f).take (k - f) := by
  simp [List.drop_take]
theorem take_next {l : List UInt8} {f k : Nat} {x : UInt8} (hf : f ≤ k) (h : l[k]? = some x) : (l.drop f).take (k + 1 - f) = (l.drop f).take (k - f) ++ [x] := by
  rw [show k + 1 - f = (k - f) + 1 by omega, List.take_add_one, List.getElem?_drop, show f + (k - f) = k by omega, h]; rfl
theorem drop_part {l : List UInt8} {f k : Nat} {x : UInt8} (hf : f ≤ k) (h : l[k]? = some x) : l.drop f = (l.drop f).take (k - f) ++ x :: l.drop (k + 1) := by
  obtain ⟨hp, rfl⟩ := List.getElem?_eq_some_iff.1 h
  rw [← List.drop_eq_getElem_cons hp]
  conv => lhs; rw [← List.take_append_drop (k - f) (l.drop f)]
  rw [List.drop_drop, show f + (k - f) = k by omega]
theorem spl_has {c x : UInt8} (hx : x ≠ c) : ∀ {s : List UInt8}, x ∈ s → ∃ p ∈ spl c s, x ∈ p
  | y :: s, h => by
    unfold spl
    split
    · rename_i e
      rcases List.mem_cons.1 h with h | h
      · exact absurd (h.trans e) hx
      · obtain ⟨p, hp, hxp⟩ := spl_has hx h
        exact ⟨p, List.mem_cons_of_mem _ hp, hxp⟩
    · split
      · rename_i e; exact absurd e (spl_ne c s)
      · rename_i q qs e
        rcases List.mem_cons.1 h with h | h
        · exact ⟨y :: q, List.mem_cons_self, by rw [h]; exact List.mem_cons_self⟩
        · obtain ⟨p, hp, hxp⟩ := spl_has hx h
          rw [e] at hp
          rcases List.mem_cons.1 hp with rfl | hp
          · exact ⟨y :: p, List.mem_cons_self, List.mem_cons_of_mem _ hxp⟩
          · exact ⟨p, List.mem_cons_of_mem _ hp, hxp⟩
theorem dom_bad_byte {s : List UInt8} {x : UInt8} (h : x ∈ s) (hx : x ≠ 46) (hb : inS x = false) : domOk s = false := by
  obtain ⟨p, hp, hxp⟩ := spl_has hx h
  have h1 : partOk p = false := by
    unfold partOk
    have : p.all inS = false := by rw [List.all_eq_false]; exact ⟨x, hxp, by rw [hb]; simp⟩
    rw [this, Bool.and_false]
  unfold domOk
  have : (spl 46 s).all partOk = false := by rw [List.all_eq_false]; exact ⟨p, hp, by rw [h1]; simp⟩
  rw [this, Bool.and_false]
theorem dom_bad_part {s p : List UInt8} (hp : p ∈ spl 46 s) (h1 : partOk p = false) : domOk s = false := by
  unfold domOk
  have : (spl 46 s).all partOk = false := by rw [List.all_eq_false]; exact ⟨p, hp, by rw [h1]; simp⟩
  rw [this, Bool.and_false]
/-- what is behind the parts so far -/
structure PaI (s : ByteArray) (k f : Nat) (ps : List ByteArray) (v : Value) (w wr : World) : Prop where
  own : wr.ownsRow w.heap.size 9 1 v ps.length (ps.map Value.string)
  below : Below w.heap.size w wr
  len : ps.length ≤ k
  ok : ∀ p ∈ ps, partOk p.data.toList = true
  rest : (k ≤ s.size ∧ f ≤ k ∧ spl 46 s.data.toList = ps.map (·.data.toList) ++ spl 46 (s.data.toList.drop f) ∧ 46 ∉ (s.data.toList.drop f).take (k - f) ∧ ((s.data.toList.drop f).take (k - f)).all inS = true) ∨ (k = s.size + 1 ∧ spl 46 s.data.toList = ps.map (·.data.toList))
theorem PaI.skip {s : ByteArray} {x : UInt8} {k f : Nat} {ps : List ByteArray} {v : Value} {w wr : World} (I : PaI s k f ps v w wr) (hk : k < s.size) (hx : s.data.toList[k]? = some x) (hne : x ≠ 46) (hin : inS x = true) : PaI s (k + 1) f ps v w wr := by
  refine ⟨I.own, I.below, Nat.le_succ_of_le I.len, I.ok, ?_⟩
  rcases I.rest with ⟨h1, h2, h3, h4, h5⟩ | ⟨h1, _⟩
  · refine .inl ⟨hk, by omega, h3, ?_, ?_⟩
    · rw [take_next h2 hx]
      intro h
      rcases List.mem_append.1 h with h | h
      · exact h4 h
      · rw [List.mem_singleton] at h; exact hne h.symm
    · rw [take_next h2 hx, List.all_append, h5]
      simp [hin]
  · omega
/-- the piece at hand is one of the text's -/
theorem PaI.piece {s : ByteArray} {k f : Nat} {ps : List ByteArray} {v : Value} {w wr : World} (I : PaI s k f ps v w wr) (hk : k ≤ s.size) (hx : k = s.size ∨ s.data.toList[k]? = some 46) :
    f ≤ k ∧ (s.extract f k).data.toList ∈ spl 46 s.data.toList ∧ (s.extract f k).data.toList.all inS = true ∧ (s.extract f k).data.toList.length = k - f := by
  rcases I.rest with ⟨h1, h2, h3, h4, h5⟩ | ⟨h1, _⟩
  · have hl : (s.extract f k).data.toList.length = k - f := by
      rw [extr, List.length_take, List.length_drop]
      have : s.data.toList.length = s.size := by simp
      omega
    refine ⟨h2, ?_, by rw [extr]; exact h5, hl⟩
    rw [h3, extr]
    refine List.mem_append_right _ ?_
    rcases hx with rfl | hx
    · have e : (s.data.toList.drop f).take (s.size - f) = s.data.toList.drop f := List.take_of_length_le (by simp)
      rw [e] at h4 ⊢
      rw [spl_clean h4]
      exact List.mem_singleton.2 rfl
    · have e : spl 46 (s.data.toList.drop f) = (s.data.toList.drop f).take (k - f) :: spl 46 (s.data.toList.drop (k + 1)) := by
        conv => lhs; rw [drop_part h2 hx, spl_cut h4]
      rw [e]
      exact List.mem_cons_self
  · omega
theorem PaI.cut {s : ByteArray} {k f : Nat} {ps : List ByteArray} {v v2 : Value} {w wr w2 : World} (I : PaI s k f ps v w wr) (hk : k ≤ s.size) (hx : k = s.size ∨ s.data.toList[k]? = some 46) (hok : partOk (s.extract f k).data.toList = true)
    (hown : w2.ownsRow w.heap.size 9 1 v2 (ps.length + 1) (ps.map Value.string ++ [Value.string (s.extract f k)])) (hb : Below w.heap.size w w2) : PaI s (k + 1) (k + 1) (ps ++ [s.extract f k]) v2 w w2 := by
  refine ⟨by simpa using hown, hb, by simp; exact I.len, fun p hp => ?_, ?_⟩
  · rcases List.mem_append.1 hp with hp | hp
    · exact I.ok p hp
    · rw [List.mem_singleton] at hp; subst hp; exact hok
  rcases I.rest with ⟨h1, h2, h3, h4, h5⟩ | ⟨h1, _⟩
  · rcases hx with rfl | hx
    · right
      refine ⟨rfl, ?_⟩
      have e : (s.data.toList.drop f).take (s.size - f) = s.data.toList.drop f := List.take_of_length_le (by simp)
      rw [e] at h4
      rw [h3, spl_clean h4, List.map_append, List.map_cons, List.map_nil, extr, e]
    · left
      have hlt : k < s.size := by have := (List.getElem?_eq_some_iff.1 hx).1; simpa using this
      refine ⟨hlt, Nat.le_refl _, ?_, by simp, by simp⟩
      rw [h3]
      conv => lhs; rw [drop_part h2 hx, spl_cut h4]
      rw [List.map_append, List.map_cons, List.map_nil, extr, List.append_assoc]; rfl
  · omega
theorem part_ok {p : List UInt8} (h : p.all inS = true) (h0 : 0 < p.length) (h63 : p.length ≤ 63) : partOk p = true := by
  unfold partOk
  cases p with
  | nil => simp at h0
  | cons x p => rw [h, decide_eq_true h63]; rfl
theorem part_no {p : List UInt8} (h : p.length = 0 ∨ 63 < p.length) : partOk p = false := by
  unfold partOk
  rcases h with h | h
  · rw [List.eq_nil_of_length_eq_zero h]; rfl
  · rw [decide_eq_false (by omega), Bool.and_false]; rfl
theorem info9 : (Tryd.prog.info? 9).map (fun i => (i.zero, i.size, i.bytes)) = some (some (.string ByteArray.empty), 1, 16) := by kernel_rfl
def PartsPost (s : ByteArray) (w : World) (e : Ending) (w' : World) : Prop := ∃ v ps, e = .returned v ∧ w'.ownsRow w.heap.size 9 1 v ps.length (ps.map Value.string) ∧ Below w.heap.size w w' ∧
  ((domOk s.data.toList = true ∧ ps.map (·.data.toList) = spl 46 s.data.toList) ∨ (domOk s.data.toList = false ∧ ps = []))
theorem parts_none {s : ByteArray} {w w' : World} (h : domOk s.data.toList = false) (hb : Below w.heap.size w w') : PartsPost s w (.returned (.slice none 0 0)) w' := ⟨_, [], rfl, World.ownsRow_nil _ _ _ _, hb, .inr ⟨h, rfl⟩⟩
end Go.Proofs.YtfolamkjlgpgmabDoor
