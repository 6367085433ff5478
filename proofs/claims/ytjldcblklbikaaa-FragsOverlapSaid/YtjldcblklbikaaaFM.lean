/- Parts sorted by their places: the walks. No condition. (Printed by gFM.py.) -/
import Derived.Test.YtjldcblklbikaaaFJ
import Derived.Test.YtjldcblklbikaaaSort
import Derived.OwnWalk
import Derived.Sort.Grow
namespace Go.Proofs.Ytjldcblklbikaaa
open Go.RowKit Go.Sort Go.Shelf Go.Lib
set_option linter.unusedVariables false
set_option linter.unusedSimpArgs false
set_option maxRecDepth 100000 in
set_option maxHeartbeats 400000 in
theorem from64x {P : List Value} {x : Pk} {A : Option Addr} {c : Nat} (w : World) (h : PkAt P x A c) :
    Calls Try.prog 64 #[.agg P.toArray] w fun e w' => e = .returned (.int .i64 (frm x : Int)) ∧ w.alloc (.cells P.toArray 43) = w' := by
  have b := heap_alloc_new w (.cells P.toArray 43)
  have c36 := box_cell b (h.tail 4)
  have ho := h.ok.off
  obtain ⟨q, hq⟩ : ∃ q, q = x.off := ⟨_, rfl⟩
  rw [← hq] at c36 ho
  have HQ : Hid (frm x = q * 8) := Lib.hid (by unfold frm; rw [hq])
  have w1 : IntKind.i64.wrap (q : Int) = (q : Int) := i64_small (by omega)
  have w2 : IntKind.i64.wrap ((q : Int) * 8) = (q : Int) * 8 := by rw [show (q : Int) * 8 = ((q * 8 : Nat) : Int) by omega]; exact i64_small (by omega)
  clear h hq b
  go_enter Try.func64, Try.ntmps64
  go_wp2_with fail
  go_ret
  refine ⟨?_, rfl⟩
  rw [HQ.out, show ((q * 8 : Nat) : Int) = (q : Int) * 8 by omega]; rfl
set_option maxRecDepth 100000 in
set_option maxHeartbeats 400000 in
theorem isNaN71 (x : Int) (w : World) : Calls Try.prog 71 #[.int .i64 x] w fun e w' => e = .returned (.bool false) ∧ w = w' := by
  go_enter Try.func71, Try.ntmps71
  go_wp2_with fail
  go_ret
  exact ⟨rfl, rfl⟩
def cmpI (x y : Nat) : Int := if x < y then -1 else if y < x then 1 else 0
set_option maxRecDepth 100000 in
set_option maxHeartbeats 400000 in
theorem cmp63 (x y : Nat) (w : World) : Calls Try.prog 63 #[.int .i64 (x : Int), .int .i64 (y : Int)] w fun e w' => e = .returned (.int .i64 (cmpI x y)) ∧ w = w' := by
  have n1 := Lib.hid (isNaN71 (x : Int) w)
  have n2 := Lib.hid (isNaN71 (y : Int) w)
  have HC : Hid (cmpI x y = if x < y then -1 else if y < x then 1 else 0) := Lib.hid rfl
  generalize cmpI x y = z at *
  go_enter Try.func63, Try.ntmps63
  go_wp2_with fail
  refine (n1.out).mono ?_
  rintro e w1 ⟨rfl, rfl⟩
  go_wp2_with fail
  refine (n2.out).mono ?_
  rintro e w1 ⟨rfl, rfl⟩
  clear n1 n2
  by_cases h1 : x < y
  · have t : (x : Int) < y := by omega
    have e := HC.out
    rw [if_pos h1] at e
    subst e
    clear h1 HC
    go_wp2_with fail
    go_ret
    exact ⟨rfl, rfl⟩
  · have t : ¬ ((x : Int) < y) := by omega
    have e := HC.out
    rw [if_neg h1] at e
    by_cases h2 : y < x
    · have t2 : (x : Int) > y := by omega
      rw [if_pos h2] at e
      subst e
      clear h1 h2 HC
      go_wp2_with fail
      go_ret
      exact ⟨rfl, rfl⟩
    · have t2 : ¬ ((x : Int) > y) := by omega
      rw [if_neg h2] at e
      subst e
      clear h1 h2 HC
      go_wp2_with fail
      go_ret
      exact ⟨rfl, rfl⟩
/-- an element that is one -/
def PEl : Type := { e : El // PkOk e.pk }
def nilPk : Pk := ⟨List.replicate 16 0, List.replicate 16 0, 0, false, false, 0, 0, false, 0, []⟩
theorem nilPk_ok : PkOk nilPk := ⟨by decide, by decide, by decide, by decide, by decide, by decide, by decide, by decide, by decide⟩
instance : Inhabited PEl := ⟨⟨⟨nilPk, none, 0⟩, nilPk_ok⟩⟩
def encE (x : PEl) : List Value := x.1.cells
theorem encE_length (x : PEl) : (encE x).length = 40 := (El.at_ x.2).len
theorem encE_one (x : PEl) : ∀ v ∈ encE x, v.oneCell' = true := (El.at_ x.2).one
def cfE (x y : PEl) : Int := cmpI (frm x.1.pk) (frm y.1.pk)
theorem ltE (x y : PEl) : ltOf cfE x y = decide (frm x.1.pk < frm y.1.pk) := by
  unfold ltOf cfE cmpI
  by_cases h : frm x.1.pk < frm y.1.pk
  · simp [h]
  · by_cases h2 : frm y.1.pk < frm x.1.pk <;> simp [h, h2]
theorem swoE : SWO (ltOf cfE) where
  irrefl x := by rw [ltE]; simp
  trans x y z h1 h2 := by rw [ltE] at *; simp at *; omega
  ntrans x y z h1 h2 := by rw [ltE] at *; simp at *; omega
theorem grow_blk {w : World} {os : Array Obj} {b : Nat} {o : Obj} (h : w.heap[b]? = some o) : (grow w os).heap[b]? = some o := by
  show (w.heap ++ os)[b]? = some o
  rw [Array.getElem?_append_left (lt_of_blk h), h]
/-- the world behind the boxes of the two that are compared -/
def Twos (W : World) (X Y : Array Value) : World := (W.alloc (.cells X 43)).alloc (.cells Y 43)
def Past (W : World) (X Y : Array Value) (w' : World) : Prop := ∃ os, w' = grow (Twos W X Y).drew os
theorem Past.x {W w' : World} {X Y : Array Value} (h : Past W X Y w') : w'.heap[W.heap.size]? = some (.cells X 43 (0, 0)) := by
  obtain ⟨os, rfl⟩ := h
  exact grow_blk (heap_alloc2_old _ _ _)
theorem Past.y {W w' : World} {X Y : Array Value} (h : Past W X Y w') : w'.heap[W.heap.size + 1]? = some (.cells Y 43 (0, 0)) := by
  obtain ⟨os, rfl⟩ := h
  exact grow_blk (heap_alloc2_new _ _ _)
theorem Past.alloc {W w' : World} {X Y : Array Value} (h : Past W X Y w') (o : Obj) : Past W X Y (w'.alloc o) := by
  obtain ⟨os, rfl⟩ := h
  exact ⟨os ++ #[o], by rw [alloc_eq_grow, grow_grow]⟩
theorem Past.end {W w' : World} {X Y : Array Value} (h : Past W X Y w') : ∃ q os, w' = grow (W.drewN q) os := by
  obtain ⟨os, rfl⟩ := h
  refine ⟨1, #[.cells X 43 (0, 0)] ++ #[.cells Y 43 (0, 0)] ++ os, ?_⟩
  unfold Twos
  rw [alloc_eq_grow, alloc_eq_grow, grow_grow, drew_grow, grow_grow]
  rfl
set_option maxRecDepth 100000 in
set_option maxHeartbeats 4000000 in
theorem closure62 (x y : PEl) (W : World) :
    Calls Try.prog 62 #[.agg (encE x).toArray, .agg (encE y).toArray] W fun e w' => e = .returned (.int .i64 (cfE x y)) ∧ ∃ q os, w' = grow (W.drewN q) os := by
  have HSZ := Lib.hid size43
  have HLX := Lib.hid (encE_length x)
  have HLY := Lib.hid (encE_length y)
  have HFX := Lib.hid (fun W => from64x W (El.at_ x.2))
  have HFY := Lib.hid (fun W => from64x W (El.at_ y.2))
  have hS0 : Past W (encE x).toArray (encE y).toArray ((W.alloc (.cells (encE x).toArray 43)).alloc (.cells (encE y).toArray 43)).drew := ⟨#[], by rw [grow_empty]; rfl⟩
  obtain ⟨X, hX⟩ : ∃ X, X = encE x := ⟨_, rfl⟩
  obtain ⟨Y, hY⟩ : ∃ Y, Y = encE y := ⟨_, rfl⟩
  rw [show x.1.cells = X from hX.symm] at HFX
  rw [show y.1.cells = Y from hY.symm] at HFY
  rw [← hX] at HLX hS0 ⊢
  rw [← hY] at HLY hS0 ⊢
  have HC : Hid (cfE x y = cmpI (frm x.1.pk) (frm y.1.pk)) := Lib.hid rfl
  generalize frm x.1.pk = fx at *
  generalize frm y.1.pk = fy at *
  have HS0 := Lib.hid hS0
  have HK := Lib.hid (fun W => cmp63 fx fy W)
  generalize cfE x y = z at *
  clear hX hY hS0
  obtain ⟨q, hq⟩ : ∃ q, q = W.heap.size := ⟨_, rfl⟩
  obtain ⟨q2, hq2⟩ : ∃ q, q = W.heap.size + 1 := ⟨_, rfl⟩
  have HX : Hid (∀ w', Past W X.toArray Y.toArray w' → w'.heap[q]? = some (.cells X.toArray 43 (0, 0))) := Lib.hid fun w' h => by rw [hq]; exact h.x
  have HY : Hid (∀ w', Past W X.toArray Y.toArray w' → w'.heap[q2]? = some (.cells Y.toArray 43 (0, 0))) := Lib.hid fun w' h => by rw [hq2]; exact h.y
  rw [HC.out]
  clear HC
  go_enter Try.func62, Try.ntmps62
  go_wp2_with fail
  rw [← hq2, ← hq]
  clear hq hq2
  have hS0 := HS0.out
  refine wp_region_held_drew (S := fun w' => Past W X.toArray Y.toArray w') (by kernel_rfl) hS0 ?_
  clear hS0
  intro HS
  refine wpAnyH_take (i := 0) (v := .agg X.toArray) rfl (by kernel_rfl) (by kernel_rfl) (by kernel_rfl) (fun _ _ _ h => h) (by refine yieldsIf_load_mid ?hw 43 (.tmp 2) ?ho q 0 ?hx X _ (fun W hW => row_of (HX.out _ hW)) Try.underlying43 rfl (by rw [HLX.out]; exact HSZ.out); (case ho => rfl); (case hw => go_simp); (case hx => go_simp)) HS ?_
  try simp only [List.getElem_toArray, List.getElem_cons_zero, List.getElem_cons_succ, Act.put, List.setIfInBounds_toArray, List.set_cons_zero, List.set_cons_succ]
  refine wpAnyH_take (i := 2) (v := .agg Y.toArray) rfl (by kernel_rfl) (by kernel_rfl) (by kernel_rfl) (fun _ _ _ h => h) (by refine yieldsIf_load_mid ?hw 43 (.tmp 3) ?ho q2 0 ?hx Y _ (fun W hW => row_of (HY.out _ hW)) Try.underlying43 rfl (by rw [HLY.out]; exact HSZ.out); (case ho => rfl); (case hw => go_simp); (case hx => go_simp)) HS ?_
  try simp only [List.getElem_toArray, List.getElem_cons_zero, List.getElem_cons_succ, Act.put, List.setIfInBounds_toArray, List.set_cons_zero, List.set_cons_succ]
  refine wpAnyH_ready (rs := [1]) (by kernel_rfl) (by simp) ?_
  refine AllReadyH.cons rfl (fun K hK => ?_) AllReadyH.nil
  rw [if_pos (by kernel_rfl)]
  simp only [List.getElem_toArray, List.getElem_cons_zero, List.getElem_cons_succ]
  go_simp
  refine (HFX.out _).mono ?_
  rintro e w2 ⟨rfl, rfl⟩
  go_simp
  refine hK.out _ _ ((Past.alloc HS _)) (fun HS => ?_)
  clear hK
  try simp only [List.getElem_toArray, List.getElem_cons_zero, List.getElem_cons_succ, Act.put, List.setIfInBounds_toArray, List.set_cons_zero, List.set_cons_succ]
  refine wpAnyH_ready (rs := [3]) (by kernel_rfl) (by simp) ?_
  refine AllReadyH.cons rfl (fun K hK => ?_) AllReadyH.nil
  rw [if_pos (by kernel_rfl)]
  simp only [List.getElem_toArray, List.getElem_cons_zero, List.getElem_cons_succ]
  go_simp
  refine (HFY.out _).mono ?_
  rintro e w2 ⟨rfl, rfl⟩
  go_simp
  refine hK.out _ _ ((Past.alloc HS _)) (fun HS => ?_)
  clear hK
  try simp only [List.getElem_toArray, List.getElem_cons_zero, List.getElem_cons_succ, Act.put, List.setIfInBounds_toArray, List.set_cons_zero, List.set_cons_succ]
  refine wpAnyH_ready (rs := [4]) (by kernel_rfl) (by simp) ?_
  refine AllReadyH.cons rfl (fun K hK => ?_) AllReadyH.nil
  rw [if_pos (by kernel_rfl)]
  simp only [List.getElem_toArray, List.getElem_cons_zero, List.getElem_cons_succ]
  go_simp
  refine (HK.out _).mono ?_
  rintro e w2 ⟨rfl, rfl⟩
  go_simp
  refine hK.out _ _ (HS) (fun HS => ?_)
  clear hK
  try simp only [List.getElem_toArray, List.getElem_cons_zero, List.getElem_cons_succ, Act.put, List.setIfInBounds_toArray, List.set_cons_zero, List.set_cons_succ]
  refine wpAnyH_take (i := 5) (v := (.int .i64 (cmpI fx fy))) rfl (by kernel_rfl) (by kernel_rfl) (by kernel_rfl) (fun _ _ _ h => h) (Or.inl ⟨by go_simp, fun W hW => by go_simp⟩) HS ?_
  try simp only [List.getElem_toArray, List.getElem_cons_zero, List.getElem_cons_succ, Act.put, List.setIfInBounds_toArray, List.set_cons_zero, List.set_cons_succ]
  refine wpAnyH_done (by kernel_rfl) ?_ _
  have HE := Lib.hid HS.end
  clear HS
  go_wp2_with fail
  go_ret
  exact ⟨rfl, HE.out⟩
theorem eg62 : ∀ args w, (callFunc 62 args).run Try.prog w = .ok (.enter 62 args) w := enters_of Try.func62 (by kernel_rfl) rfl
theorem cmpL62 (g size : Nat) (w : World) : CmpLays Try.prog 62 #[] encE 40 cfE g 0 size w := fun _ _ _ _ x y => closure62 x y _
end Go.Proofs.Ytjldcblklbikaaa
