/- The walk of the order by which the list's entries are sorted. No condition. -/
import Derived.Test.YtkhbchgocilclaaCmp
import Derived.Test.YtkhbchgocilclaaHoldEq
import Derived.Sort.Grow
namespace Go.Proofs.Ytkhbchgocilclaa
open Go.RowKit Go.Sort
set_option linter.unusedVariables false
set_option linter.unusedSimpArgs false

/-- a prefix as its bytes -/
def PKey : Type := { l : List UInt8 // l.length = 17 }
def encK (T : List UInt8 → Nat) (x : PKey) : List Value := (x.1.map fun b => Value.int .u8 (b.toNat : Int)) ++ [.int .u64 (T x.1 : Int)]
theorem encK_length (T : List UInt8 → Nat) (x : PKey) : (encK T x).length = 18 := by simp [encK, x.2]
def cfK (x y : PKey) : Int := orI (cmpB (x.1.take 16) (y.1.take 16)) (cmpU (x.1.getD 16 0).toNat (y.1.getD 16 0).toNat)
theorem encK_at (T : List UInt8 → Nat) (x : PKey) {j : Nat} {b : UInt8} (h : x.1[j]? = some b) : (encK T x)[j]? = some (.int .u8 (b.toNat : Int)) := by
  unfold encK
  rw [List.getElem?_append_left (by simp; exact (List.getElem?_eq_some_iff.1 h).1), List.getElem?_map, h]; rfl
theorem encK_16 (T : List UInt8 → Nat) (x : PKey) : (encK T x)[16]? = some (.int .u8 ((x.1.getD 16 0).toNat : Int)) := by
  refine encK_at T x ?_
  rw [List.getD_eq_getElem?_getD, List.getElem?_eq_getElem (by rw [x.2]; decide)]; rfl
theorem grow_blk {w : World} {os : Array Obj} {b : Nat} {o : Obj} (h : w.heap[b]? = some o) : (grow w os).heap[b]? = some o := by
  show (w.heap ++ os)[b]? = some o
  rw [Array.getElem?_append_left (lt_of_blk h), h]
theorem enc_cell {T : List UInt8 → Nat} {x : PKey} {w : World} {b : Nat} {t : TypeId} {z : Nat × Nat} (h : w.heap[b]? = some (.cells (encK T x).toArray t z)) {j : Nat} {v : Value} (hv : (encK T x)[j]? = some v) : w.cell? ⟨b, j, none⟩ = some v := by
  rw [cell_blk h]; simpa using hv
theorem enc_bytes {T : List UInt8 → Nat} {x : PKey} {w : World} {b : Nat} {t : TypeId} {z : Nat × Nat} (h : w.heap[b]? = some (.cells (encK T x).toArray t z)) : ∀ j y, (x.1.take 16)[j]? = some y → w.cell? ⟨b, 0 + j, none⟩ = some (.int .u8 (y.toNat : Int)) := fun j y hj => by
  rw [Nat.zero_add]
  refine enc_cell h (encK_at T x ?_)
  rw [List.getElem?_take] at hj
  split at hj
  · exact hj
  · cases hj

/-- the world behind the boxes of the two that are compared -/
def Twos (W : World) (X Y : Array Value) : World := (W.alloc (.cells X 44)).alloc (.cells Y 44)
def Past (W : World) (X Y : Array Value) (w' : World) : Prop := ∃ os, w' = grow (Twos W X Y).drew os
theorem Past.x {W w' : World} {X Y : Array Value} (h : Past W X Y w') : w'.heap[W.heap.size]? = some (.cells X 44 (0, 0)) := by
  obtain ⟨os, rfl⟩ := h
  exact grow_blk (heap_alloc2_old _ _ _)
theorem Past.y {W w' : World} {X Y : Array Value} (h : Past W X Y w') : w'.heap[W.heap.size + 1]? = some (.cells Y 44 (0, 0)) := by
  obtain ⟨os, rfl⟩ := h
  exact grow_blk (heap_alloc2_new _ _ _)
theorem Past.alloc {W w' : World} {X Y : Array Value} (h : Past W X Y w') (o : Obj) : Past W X Y (w'.alloc o) := by
  obtain ⟨os, rfl⟩ := h
  exact ⟨os ++ #[o], by rw [alloc_eq_grow, grow_grow]⟩
theorem Past.end {W w' : World} {X Y : Array Value} (h : Past W X Y w') : ∃ q os, w' = grow (W.drewN q) os := by
  obtain ⟨os, rfl⟩ := h
  refine ⟨1, #[.cells X 44 (0, 0)] ++ #[.cells Y 44 (0, 0)] ++ os, ?_⟩
  unfold Twos
  rw [alloc_eq_grow, alloc_eq_grow, grow_grow, drew_grow, grow_grow]
  rfl
theorem third (W : World) (X Y : Obj) (Z : Array Value) (t : TypeId) : (((W.alloc X).alloc Y).alloc (.cells Z t)).drew.heap[W.heap.size + 1 + 1]? = some (.cells Z t (0, 0)) := by
  have h := heap_alloc_new ((W.alloc X).alloc Y) (.cells Z t)
  have e : ((W.alloc X).alloc Y).heap.size = W.heap.size + 1 + 1 := by simp
  rw [e] at h
  exact h
set_option maxRecDepth 100000 in
set_option maxHeartbeats 4000000 in
theorem closure25 (T : List UInt8 → Nat) (x y : PKey) (W : World) :
    Calls Try.prog 25 #[.agg (encK T x).toArray, .agg (encK T y).toArray] W fun e w' => e = .returned (.int .i64 (cfK x y)) ∧ ∃ q os, w' = grow (W.drewN q) os := by
  have hX : ∀ w', Past W (encK T x).toArray (encK T y).toArray w' → w'.cell? ⟨W.heap.size, 16, none⟩ = some (.int .u8 ((x.1.getD 16 0).toNat : Int)) := fun w' h => enc_cell h.x (encK_16 T x)
  have hY : ∀ w', Past W (encK T x).toArray (encK T y).toArray w' → w'.cell? ⟨W.heap.size + 1, 16, none⟩ = some (.int .u8 ((y.1.getD 16 0).toNat : Int)) := fun w' h => enc_cell h.y (encK_16 T y)
  have hB : ∀ w', Past W (encK T x).toArray (encK T y).toArray w' → Calls Try.prog 27 #[.slice (some ⟨W.heap.size, 0, none⟩) 16 16, .slice (some ⟨W.heap.size + 1, 0, none⟩) 16 16] w' fun e w1 => e = .returned (.int .i64 (cmpB (x.1.take 16) (y.1.take 16))) ∧ w' = w1 := fun w' h => by
    have := compare_any W.heap.size 0 16 (W.heap.size + 1) 0 16 (x.1.take 16) (y.1.take 16) w' (enc_bytes h.x) (enc_bytes h.y)
    rwa [List.length_take, List.length_take, x.2, y.2] at this
  have hR : cfK x y = orI (cmpB (x.1.take 16) (y.1.take 16)) (cmpU (x.1.getD 16 0).toNat (y.1.getD 16 0).toNat) := rfl
  rw [hR]
  clear hR
  have hS0 : Past W (encK T x).toArray (encK T y).toArray ((W.alloc (.cells (encK T x).toArray 44)).alloc (.cells (encK T y).toArray 44)).drew := ⟨#[], by rw [grow_empty]; rfl⟩
  have HX := Lib.hid hX; have HY := Lib.hid hY; have HB := Lib.hid hB; have HS0 := Lib.hid hS0
  clear hX hY hB hS0
  generalize (encK T x).toArray = X at *
  generalize (encK T y).toArray = Y at *
  generalize cmpB (x.1.take 16) (y.1.take 16) = cb at *
  generalize (x.1.getD 16 0).toNat = xn at *
  generalize (y.1.getD 16 0).toNat = yn at *
  go_enter Try.func25, Try.ntmps25
  go_wp2_with fail
  refine wp_region_held_drew (S := fun w' => Past W X Y w') (by kernel_rfl) HS0.out ?_
  intro HS
  refine wpAnyH_take (i := 0) (v := .pointer (some ⟨W.heap.size, 0, none⟩)) rfl (by kernel_rfl) (by kernel_rfl) (by kernel_rfl) (fun _ _ _ h => h) (Or.inl ⟨by rfl, fun W hW => by go_simp⟩) HS ?_
  try simp only [List.getElem_toArray, List.getElem_cons_zero, List.getElem_cons_succ, Act.put, List.setIfInBounds_toArray, List.set_cons_zero, List.set_cons_succ]
  refine wpAnyH_take (i := 1) (v := .pointer (some ⟨W.heap.size, 0, none⟩)) rfl (by kernel_rfl) (by kernel_rfl) (by kernel_rfl) (fun _ _ _ h => h) (Or.inl ⟨by rfl, fun W hW => by go_simp⟩) HS ?_
  try simp only [List.getElem_toArray, List.getElem_cons_zero, List.getElem_cons_succ, Act.put, List.setIfInBounds_toArray, List.set_cons_zero, List.set_cons_succ]
  refine wpAnyH_take (i := 2) (v := .slice (some ⟨W.heap.size, 0, none⟩) 16 16) rfl (by kernel_rfl) (by kernel_rfl) (by kernel_rfl) (fun _ _ _ h => h) (Or.inl ⟨by rfl, fun W hW => by go_simp⟩) HS ?_
  try simp only [List.getElem_toArray, List.getElem_cons_zero, List.getElem_cons_succ, Act.put, List.setIfInBounds_toArray, List.set_cons_zero, List.set_cons_succ]
  refine wpAnyH_take (i := 3) (v := .pointer (some ⟨W.heap.size + 1, 0, none⟩)) rfl (by kernel_rfl) (by kernel_rfl) (by kernel_rfl) (fun _ _ _ h => h) (Or.inl ⟨by rfl, fun W hW => by go_simp⟩) HS ?_
  try simp only [List.getElem_toArray, List.getElem_cons_zero, List.getElem_cons_succ, Act.put, List.setIfInBounds_toArray, List.set_cons_zero, List.set_cons_succ]
  refine wpAnyH_take (i := 4) (v := .pointer (some ⟨W.heap.size + 1, 0, none⟩)) rfl (by kernel_rfl) (by kernel_rfl) (by kernel_rfl) (fun _ _ _ h => h) (Or.inl ⟨by rfl, fun W hW => by go_simp⟩) HS ?_
  try simp only [List.getElem_toArray, List.getElem_cons_zero, List.getElem_cons_succ, Act.put, List.setIfInBounds_toArray, List.set_cons_zero, List.set_cons_succ]
  refine wpAnyH_take (i := 5) (v := .slice (some ⟨W.heap.size + 1, 0, none⟩) 16 16) rfl (by kernel_rfl) (by kernel_rfl) (by kernel_rfl) (fun _ _ _ h => h) (Or.inl ⟨by rfl, fun W hW => by go_simp⟩) HS ?_
  try simp only [List.getElem_toArray, List.getElem_cons_zero, List.getElem_cons_succ, Act.put, List.setIfInBounds_toArray, List.set_cons_zero, List.set_cons_succ]
  refine wpAnyH_take (i := 7) (v := .pointer (some ⟨W.heap.size, 0, none⟩)) rfl (by kernel_rfl) (by kernel_rfl) (by kernel_rfl) (fun _ _ _ h => h) (Or.inl ⟨by rfl, fun W hW => by go_simp⟩) HS ?_
  try simp only [List.getElem_toArray, List.getElem_cons_zero, List.getElem_cons_succ, Act.put, List.setIfInBounds_toArray, List.set_cons_zero, List.set_cons_succ]
  refine wpAnyH_take (i := 8) (v := .pointer (some ⟨W.heap.size, 16, none⟩)) rfl (by kernel_rfl) (by kernel_rfl) (by kernel_rfl) (fun _ _ _ h => h) (Or.inl ⟨by rfl, fun W hW => by go_simp⟩) HS ?_
  try simp only [List.getElem_toArray, List.getElem_cons_zero, List.getElem_cons_succ, Act.put, List.setIfInBounds_toArray, List.set_cons_zero, List.set_cons_succ]
  refine wpAnyH_take (i := 9) (v := .int .u8 (xn : Int)) rfl (by kernel_rfl) (by kernel_rfl) (by kernel_rfl) (fun _ _ _ h => h) (Or.inl ⟨by rfl, fun W hW => by have := HX.out W hW; go_simp⟩) HS ?_
  try simp only [List.getElem_toArray, List.getElem_cons_zero, List.getElem_cons_succ, Act.put, List.setIfInBounds_toArray, List.set_cons_zero, List.set_cons_succ]
  refine wpAnyH_take (i := 10) (v := .pointer (some ⟨W.heap.size + 1, 0, none⟩)) rfl (by kernel_rfl) (by kernel_rfl) (by kernel_rfl) (fun _ _ _ h => h) (Or.inl ⟨by rfl, fun W hW => by go_simp⟩) HS ?_
  try simp only [List.getElem_toArray, List.getElem_cons_zero, List.getElem_cons_succ, Act.put, List.setIfInBounds_toArray, List.set_cons_zero, List.set_cons_succ]
  refine wpAnyH_take (i := 11) (v := .pointer (some ⟨W.heap.size + 1, 16, none⟩)) rfl (by kernel_rfl) (by kernel_rfl) (by kernel_rfl) (fun _ _ _ h => h) (Or.inl ⟨by rfl, fun W hW => by go_simp⟩) HS ?_
  try simp only [List.getElem_toArray, List.getElem_cons_zero, List.getElem_cons_succ, Act.put, List.setIfInBounds_toArray, List.set_cons_zero, List.set_cons_succ]
  refine wpAnyH_take (i := 12) (v := .int .u8 (yn : Int)) rfl (by kernel_rfl) (by kernel_rfl) (by kernel_rfl) (fun _ _ _ h => h) (Or.inl ⟨by rfl, fun W hW => by have := HY.out W hW; go_simp⟩) HS ?_
  try simp only [List.getElem_toArray, List.getElem_cons_zero, List.getElem_cons_succ, Act.put, List.setIfInBounds_toArray, List.set_cons_zero, List.set_cons_succ]
  refine wpAnyH_ready (rs := [6]) (by kernel_rfl) (by simp) ?_
  refine AllReadyH.cons rfl (fun K hK => ?_) AllReadyH.nil
  rw [if_pos (by kernel_rfl)]
  simp only [List.getElem_toArray, List.getElem_cons_zero, List.getElem_cons_succ]
  go_simp
  refine (HB.out _ HS).mono ?_
  rintro e w1 ⟨rfl, rfl⟩
  refine hK.out _ _ HS (fun HS => ?_)
  clear hK
  try simp only [List.getElem_toArray, List.getElem_cons_zero, List.getElem_cons_succ, Act.put, List.setIfInBounds_toArray, List.set_cons_zero, List.set_cons_succ]
  refine wpAnyH_ready (rs := [13]) (by kernel_rfl) (by simp) ?_
  refine AllReadyH.cons rfl (fun K hK => ?_) AllReadyH.nil
  rw [if_pos (by kernel_rfl)]
  simp only [List.getElem_toArray, List.getElem_cons_zero, List.getElem_cons_succ]
  go_simp
  refine (cmpU_any xn yn _).mono ?_
  rintro e w1 ⟨rfl, rfl⟩
  refine hK.out _ _ HS (fun HS => ?_)
  clear hK
  try simp only [List.getElem_toArray, List.getElem_cons_zero, List.getElem_cons_succ, Act.put, List.setIfInBounds_toArray, List.set_cons_zero, List.set_cons_succ]
  refine wpAnyH_ready (rs := [14]) (by kernel_rfl) (by simp) ?_
  refine AllReadyH.cons rfl (fun K hK => ?_) AllReadyH.nil
  rw [if_pos (by kernel_rfl)]
  simp only [List.getElem_toArray, List.getElem_cons_zero, List.getElem_cons_succ]
  go_simp
  refine hK.out _ _ (HS.alloc _) (fun HS => ?_)
  clear hK
  try simp only [List.getElem_toArray, List.getElem_cons_zero, List.getElem_cons_succ, Act.put, List.setIfInBounds_toArray, List.set_cons_zero, List.set_cons_succ]
  refine wpAnyH_ready (rs := [15]) (by kernel_rfl) (by simp) ?_
  refine AllReadyH.cons rfl (fun K hK => ?_) AllReadyH.nil
  rw [if_pos (by kernel_rfl)]
  simp only [List.getElem_toArray, List.getElem_cons_zero, List.getElem_cons_succ]
  go_simp
  refine (or_any (W.heap.size + 1 + 1) 2 cb (cmpU xn yn) _ (cell_blk (third W _ _ _ _) 0) (cell_blk (third W _ _ _ _) 1)).mono ?_
  rintro e w1 ⟨rfl, rfl⟩
  refine hK.out _ _ HS (fun HS => ?_)
  clear hK
  try simp only [List.getElem_toArray, List.getElem_cons_zero, List.getElem_cons_succ, Act.put, List.setIfInBounds_toArray, List.set_cons_zero, List.set_cons_succ]
  refine wpAnyH_take (i := 16) (v := .int .i64 (orI cb (cmpU xn yn))) rfl (by kernel_rfl) (by kernel_rfl) (by kernel_rfl) (fun _ _ _ h => h) (Or.inl ⟨by rfl, fun W hW => by go_simp⟩) HS ?_
  try simp only [List.getElem_toArray, List.getElem_cons_zero, List.getElem_cons_succ, Act.put, List.setIfInBounds_toArray, List.set_cons_zero, List.set_cons_succ]
  refine wpAnyH_done (by kernel_rfl) ?_ _
  have HE := Lib.hid HS.end
  clear HS
  go_wp2_with fail
  go_ret
  exact ⟨rfl, HE.out⟩
end Go.Proofs.Ytkhbchgocilclaa
