/- The comparator of rising addresses, and the sort of a row of addresses. No condition beyond those named. (Written out by exp.py.) -/
import Derived.Test.YthbkjhacnnoolaaDoorGT
import Derived.Test.YthbkjhacnnoolaaDoorSort
import Derived.OwnWalk
namespace Go.Proofs.YthbkjhacnnoolaaDoor
open Go.RowKit Go.Sort Go.Shelf Go.Lib
set_option linter.unusedVariables false
set_option linter.unusedSimpArgs false
def AdrT : Type := { l : List Nat // Adr l }
theorem adr_zero : Adr (List.replicate 16 0) := ⟨by simp, fun y hy => by rw [List.eq_of_mem_replicate hy]; decide⟩
instance : Inhabited AdrT := ⟨⟨List.replicate 16 0, adr_zero⟩⟩
def encT (x : AdrT) : List Value := row8 x.1
theorem encT_length (x : AdrT) : (encT x).length = 16 := (row8_length _).trans x.2.len
theorem encT_one (x : AdrT) : ∀ v ∈ encT x, v.oneCell' = true := row8_one _
def cfT (x y : AdrT) : Int := cmpN (numA x.1) (numA y.1)
theorem grow_blk {w : World} {os : Array Obj} {b : Nat} {o : Obj} (h : w.heap[b]? = some o) : (grow w os).heap[b]? = some o := by
  show (w.heap ++ os)[b]? = some o
  rw [Array.getElem?_append_left (lt_of_blk h), h]
theorem two_old (W : World) (X Y : Obj) : ((W.alloc X).alloc Y).heap[W.heap.size]? = some X := (Below.heap_alloc _ _ _ (by simp)).trans (World.alloc_heap_new W X)
theorem two_new (W : World) (X Y : Obj) : ((W.alloc X).alloc Y).heap[W.heap.size + 1]? = some Y := by
  have := World.alloc_heap_new (W.alloc X) Y
  rwa [World.size_alloc] at this
def Past (W : World) (X Y : Array Value) (w' : World) : Prop := ∃ q os, w' = grow (((W.alloc (.cells X 26)).alloc (.cells Y 26)).drewN q) os
theorem Past.x {W w' : World} {X Y : Array Value} (h : Past W X Y w') : w'.heap[W.heap.size]? = some (.cells X 26 (0, 0)) := by
  obtain ⟨q, os, rfl⟩ := h
  exact grow_blk (two_old _ _ _)
theorem Past.y {W w' : World} {X Y : Array Value} (h : Past W X Y w') : w'.heap[W.heap.size + 1]? = some (.cells Y 26 (0, 0)) := by
  obtain ⟨q, os, rfl⟩ := h
  exact grow_blk (two_new _ _ _)
theorem Past.end {W w' : World} {X Y : Array Value} (h : Past W X Y w') : ∃ q os, w' = grow (W.drewN q) os := by
  obtain ⟨q, os, rfl⟩ := h
  refine ⟨q, #[.cells X 26 (0, 0)] ++ #[.cells Y 26 (0, 0)] ++ os, ?_⟩
  rw [alloc_eq_grow, alloc_eq_grow, grow_grow]
  show grow (grow (W.drewN q) _) os = _
  rw [grow_grow]
set_option maxRecDepth 100000 in
set_option maxHeartbeats 4000000 in
theorem closure39 (x y : AdrT) (W : World) :
    Calls Tryd.prog 39 #[.agg (encT x).toArray, .agg (encT y).toArray] W fun e w' => e = .returned (.int .i64 (cfT x y)) ∧ ∃ q os, w' = grow (W.drewN q) os := by
  have hB : ∀ w', Past W (encT x).toArray (encT y).toArray w' → Calls Tryd.prog 40 #[.slice (some ⟨W.heap.size, 0, none⟩) 16 16, .slice (some ⟨W.heap.size + 1, 0, none⟩) 16 16] w' fun e w1 => e = .returned (.int .i64 (cfT x y)) ∧ w' = w1 := fun w' h =>
    compare40 W.heap.size 16 (W.heap.size + 1) 16 x.1 y.1 x.2 y.2 w' (fun j v hj => by rw [Nat.zero_add, cell_blk h.x j]; simpa [encT] using row8_get hj) (fun j v hj => by rw [Nat.zero_add, cell_blk h.y j]; simpa [encT] using row8_get hj)
  have hS0 : Past W (encT x).toArray (encT y).toArray ((W.alloc (.cells (encT x).toArray 26)).alloc (.cells (encT y).toArray 26)).drew := ⟨1, #[], by rw [grow_empty]; rfl⟩
  have HB := Lib.hid hB; have HS0 := Lib.hid hS0
  clear hB hS0
  generalize (encT x).toArray = X at *
  generalize (encT y).toArray = Y at *
  generalize cfT x y = cb at *
  go_enter Tryd.func39, Tryd.ntmps39
  go_wp2_with fail
  refine wp_region_held_drew (S := fun w' => Past W X Y w') (by kernel_rfl) HS0.out ?_
  intro HS
  refine wpAnyH_take (i := 0) (v := ?_) rfl (by kernel_rfl) (by kernel_rfl) (by kernel_rfl) (fun _ _ _ h => h) (Or.inl ⟨by go_simp, ?hy⟩) HS ?_
  case hy => intro W hW; go_simp; (try with_reducible rfl)
  try simp only [List.getElem_toArray, List.getElem_cons_zero, List.getElem_cons_succ, Act.put, List.setIfInBounds_toArray, List.set_cons_zero, List.set_cons_succ]
  refine wpAnyH_take (i := 1) (v := ?_) rfl (by kernel_rfl) (by kernel_rfl) (by kernel_rfl) (fun _ _ _ h => h) (Or.inl ⟨by go_simp, ?hy⟩) HS ?_
  case hy => intro W hW; go_simp; (try with_reducible rfl)
  try simp only [List.getElem_toArray, List.getElem_cons_zero, List.getElem_cons_succ, Act.put, List.setIfInBounds_toArray, List.set_cons_zero, List.set_cons_succ]
  refine wpAnyH_ready (rs := [2]) (by kernel_rfl) (by simp) ?_
  refine AllReadyH.cons rfl (fun K hK => ?_) AllReadyH.nil
  rw [if_pos (by kernel_rfl)]
  simp only [List.getElem_toArray, List.getElem_cons_zero, List.getElem_cons_succ]
  go_simp
  refine (HB.out _ HS).mono ?_
  rintro e w1 ⟨rfl, rfl⟩
  refine hK.out _ _ (HS) (fun HS => ?_)
  clear hK
  try simp only [List.getElem_toArray, List.getElem_cons_zero, List.getElem_cons_succ, Act.put, List.setIfInBounds_toArray, List.set_cons_zero, List.set_cons_succ]
  refine wpAnyH_take (i := 3) (v := ?_) rfl (by kernel_rfl) (by kernel_rfl) (by kernel_rfl) (fun _ _ _ h => h) (Or.inl ⟨by go_simp, ?hy⟩) HS ?_
  case hy => intro W hW; go_simp; (try with_reducible rfl)
  try simp only [List.getElem_toArray, List.getElem_cons_zero, List.getElem_cons_succ, Act.put, List.setIfInBounds_toArray, List.set_cons_zero, List.set_cons_succ]
  refine wpAnyH_done (by kernel_rfl) ?_ _
  have HE := Lib.hid HS.end
  clear HS
  go_wp2_with fail
  go_ret
  exact ⟨rfl, HE.out⟩
theorem ltT (x y : AdrT) : ltOf cfT x y = decide (numA x.1 < numA y.1) := by
  unfold ltOf cfT cmpN
  by_cases h : numA x.1 < numA y.1
  · simp [h]
  · by_cases h2 : numA y.1 < numA x.1 <;> simp [h, h2]
theorem swoT : SWO (ltOf cfT) where
  irrefl x := by rw [ltT]; simp
  trans x y z h1 h2 := by rw [ltT] at *; simp at *; omega
  ntrans x y z h1 h2 := by rw [ltT] at *; simp at *; omega
theorem numT_inj {x y : AdrT} (h : numA x.1 = numA y.1) : x = y := Subtype.ext (numA_inj _ _ x.2.low y.2.low (x.2.len.trans y.2.len.symm) h)
theorem totT : ∀ x y, ltOf cfT x y = false → ltOf cfT y x = false → x = y := fun x y h1 h2 => by
  rw [ltT] at h1 h2
  simp at h1 h2
  exact numT_inj (by omega)
theorem eg39 : ∀ args w, (callFunc 39 args).run Tryd.prog w = .ok (.enter 39 args) w := enters_of Tryd.func39 (by kernel_rfl) rfl
theorem cmp39 (g size : Nat) (w : World) : CmpLays Tryd.prog 39 #[] encT 16 cfT g 0 size w := fun _ _ _ _ x y => closure39 x y _
def flatT (ks : List AdrT) : List Value := ks.flatMap encT
theorem flatT_at : ∀ (ks : List AdrT) (i c : Nat) (k : AdrT), ks[i]? = some k → c < 16 → (flatT ks)[i * 16 + c]? = (encT k)[c]?
  | [], i, c, k, h, _ => by simp at h
  | a :: ks, 0, c, k, h, hc => by
    have h : a = k := by simpa using h
    subst h
    unfold flatT
    rw [List.flatMap_cons, Nat.zero_mul, Nat.zero_add, List.getElem?_append_left (by rw [encT_length]; exact hc)]
  | a :: ks, i + 1, c, k, h, hc => by
    have := flatT_at ks i c k (by simpa using h) hc
    unfold flatT at *
    rw [List.flatMap_cons, List.getElem?_append_right (by rw [encT_length]; omega), encT_length, show (i + 1) * 16 + c - 16 = i * 16 + c from by omega]
    exact this
theorem flatT_length (ks : List AdrT) : (flatT ks).length = ks.length * 16 := by
  induction ks with
  | nil => rfl
  | cons a ks ih => unfold flatT at *; rw [List.flatMap_cons, List.length_append, ih, encT_length, List.length_cons]; omega
theorem holds_of_own {ks : List AdrT} {g cap B : Nat} {w : World} (h : w.ownsRow B 26 16 (.slice (some ⟨g, 0, none⟩) ks.length cap) ks.length (flatT ks)) : HoldsK encT 16 w g 0 ks.toArray ∧ g < w.heap.size := by
  obtain ⟨h0, h1 | ⟨g', cap', cur, e, hb, hg, hn, hm, hs, ht⟩⟩ := h
  · cases h1.1
  · injection e with e1 e2 e3
    injection e1 with e1
    injection e1 with e1
    subst e1 e3
    refine ⟨fun j hj => ?_, lt_of_blk hg⟩
    have hj : j < ks.length * 16 := by simpa using hj
    have hi : j / 16 < ks.length := by omega
    have hk : ks[j / 16]? = some ks[j / 16] := List.getElem?_eq_getElem hi
    have hf := flatT_at ks (j / 16) (j % 16) _ hk (Nat.mod_lt _ (by decide))
    rw [show j / 16 * 16 + j % 16 = j from by omega] at hf
    refine ⟨?_, frozen_blk hg _⟩
    rw [Nat.zero_add, cell_blk hg, show id (flatK encT 16 ks.toArray)[j]! = (flatK encT 16 ks.toArray)[j]! from rfl, get_flatK _ _ _ _ (by simpa using hj)]
    have hc : cur[j]? = (flatT ks)[j]? := by
      rw [← ht, List.getElem?_take_of_lt hj]; simp
    rw [hc, hf]
    have hl : j % 16 < (encT ks[j / 16]).length := by rw [encT_length]; exact Nat.mod_lt _ (by decide)
    have e1 : (ks.toArray)[j / 16]! = ks[j / 16] := by simp [hi]
    rw [e1, List.getElem?_eq_getElem hl]
    simp [hl]
end Go.Proofs.YthbkjhacnnoolaaDoor
