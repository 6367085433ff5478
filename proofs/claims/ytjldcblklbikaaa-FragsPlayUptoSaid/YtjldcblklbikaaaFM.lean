/- Several texts in one: FM, FN. No condition beyond those that each part names. -/
import Derived.Test.YtjldcblklbikaaaFH
import Derived.Test.YtjldcblklbikaaaSort
import Derived.OwnWalk
import Derived.Sort.Grow
import Derived.Laws.AppendOwnNone
/- Parts sorted by their places: the walks. No condition. (Printed by gFM.py.) -/
namespace Go.Proofs.Ytjldcblklbikaaa
open Go.RowKit Go.Sort Go.Shelf Go.Lib
set_option linter.unusedVariables false
set_option linter.unusedSimpArgs false
set_option maxRecDepth 100000 in
set_option maxHeartbeats 400000 in
theorem from64x {P : List Value} {x : Pk} {A : Option Addr} {c : Nat} (w : World) (h : PkAt P x A c) :
    Calls Try.prog 64 #[.agg P.toArray] w fun e w' => e = .returned (.int .i64 (frm x : Int)) ∧ w.alloc (.cells P.toArray 43) = w' := by
  have b := heap_alloc_new w (.cells P.toArray 43)
  have c36 := box_cell b (h.tail 4)
  have ho := h.ok.off
  obtain ⟨q, hq⟩ : ∃ q, q = x.off := ⟨_, rfl⟩
  rw [← hq] at c36 ho
  have HQ : Hid (frm x = q * 8) := Lib.hid (by unfold frm; rw [hq])
  have w1 : IntKind.i64.wrap (q : Int) = (q : Int) := i64_small (by omega)
  have w2 : IntKind.i64.wrap ((q : Int) * 8) = (q : Int) * 8 := by rw [show (q : Int) * 8 = ((q * 8 : Nat) : Int) by omega]; exact i64_small (by omega)
  clear h hq b
  go_enter Try.func64, Try.ntmps64
  go_wp2_with fail
  go_ret
  refine ⟨?_, rfl⟩
  rw [HQ.out, show ((q * 8 : Nat) : Int) = (q : Int) * 8 by omega]; rfl
set_option maxRecDepth 100000 in
set_option maxHeartbeats 400000 in
theorem isNaN71 (x : Int) (w : World) : Calls Try.prog 71 #[.int .i64 x] w fun e w' => e = .returned (.bool false) ∧ w = w' := by
  go_enter Try.func71, Try.ntmps71
  go_wp2_with fail
  go_ret
  exact ⟨rfl, rfl⟩
def cmpI (x y : Nat) : Int := if x < y then -1 else if y < x then 1 else 0
set_option maxRecDepth 100000 in
set_option maxHeartbeats 400000 in
theorem cmp63 (x y : Nat) (w : World) : Calls Try.prog 63 #[.int .i64 (x : Int), .int .i64 (y : Int)] w fun e w' => e = .returned (.int .i64 (cmpI x y)) ∧ w = w' := by
  have n1 := Lib.hid (isNaN71 (x : Int) w)
  have n2 := Lib.hid (isNaN71 (y : Int) w)
  have HC : Hid (cmpI x y = if x < y then -1 else if y < x then 1 else 0) := Lib.hid rfl
  generalize cmpI x y = z at *
  go_enter Try.func63, Try.ntmps63
  go_wp2_with fail
  refine (n1.out).mono ?_
  rintro e w1 ⟨rfl, rfl⟩
  go_wp2_with fail
  refine (n2.out).mono ?_
  rintro e w1 ⟨rfl, rfl⟩
  clear n1 n2
  by_cases h1 : x < y
  · have t : (x : Int) < y := by omega
    have e := HC.out
    rw [if_pos h1] at e
    subst e
    clear h1 HC
    go_wp2_with fail
    go_ret
    exact ⟨rfl, rfl⟩
  · have t : ¬ ((x : Int) < y) := by omega
    have e := HC.out
    rw [if_neg h1] at e
    by_cases h2 : y < x
    · have t2 : (x : Int) > y := by omega
      rw [if_pos h2] at e
      subst e
      clear h1 h2 HC
      go_wp2_with fail
      go_ret
      exact ⟨rfl, rfl⟩
    · have t2 : ¬ ((x : Int) > y) := by omega
      rw [if_neg h2] at e
      subst e
      clear h1 h2 HC
      go_wp2_with fail
      go_ret
      exact ⟨rfl, rfl⟩
/-- an element that is one -/
def PEl : Type := { e : El // PkOk e.pk }
def nilPk : Pk := ⟨List.replicate 16 0, List.replicate 16 0, 0, false, false, 0, 0, false, 0, []⟩
theorem nilPk_ok : PkOk nilPk := ⟨by decide, by decide, by decide, by decide, by decide, by decide, by decide, by decide, by decide⟩
instance : Inhabited PEl := ⟨⟨⟨nilPk, none, 0⟩, nilPk_ok⟩⟩
def encE (x : PEl) : List Value := x.1.cells
theorem encE_length (x : PEl) : (encE x).length = 40 := (El.at_ x.2).len
theorem encE_one (x : PEl) : ∀ v ∈ encE x, v.oneCell' = true := (El.at_ x.2).one
def cfE (x y : PEl) : Int := cmpI (frm x.1.pk) (frm y.1.pk)
theorem ltE (x y : PEl) : ltOf cfE x y = decide (frm x.1.pk < frm y.1.pk) := by
  unfold ltOf cfE cmpI
  by_cases h : frm x.1.pk < frm y.1.pk
  · simp [h]
  · by_cases h2 : frm y.1.pk < frm x.1.pk <;> simp [h, h2]
theorem swoE : SWO (ltOf cfE) where
  irrefl x := by rw [ltE]; simp
  trans x y z h1 h2 := by rw [ltE] at *; simp at *; omega
  ntrans x y z h1 h2 := by rw [ltE] at *; simp at *; omega
theorem grow_blk {w : World} {os : Array Obj} {b : Nat} {o : Obj} (h : w.heap[b]? = some o) : (grow w os).heap[b]? = some o := by
  show (w.heap ++ os)[b]? = some o
  rw [Array.getElem?_append_left (lt_of_blk h), h]
/-- the world behind the boxes of the two that are compared -/
def Twos (W : World) (X Y : Array Value) : World := (W.alloc (.cells X 43)).alloc (.cells Y 43)
def Past (W : World) (X Y : Array Value) (w' : World) : Prop := ∃ os, w' = grow (Twos W X Y).drew os
theorem Past.x {W w' : World} {X Y : Array Value} (h : Past W X Y w') : w'.heap[W.heap.size]? = some (.cells X 43 (0, 0)) := by
  obtain ⟨os, rfl⟩ := h
  exact grow_blk (heap_alloc2_old _ _ _)
theorem Past.y {W w' : World} {X Y : Array Value} (h : Past W X Y w') : w'.heap[W.heap.size + 1]? = some (.cells Y 43 (0, 0)) := by
  obtain ⟨os, rfl⟩ := h
  exact grow_blk (heap_alloc2_new _ _ _)
theorem Past.alloc {W w' : World} {X Y : Array Value} (h : Past W X Y w') (o : Obj) : Past W X Y (w'.alloc o) := by
  obtain ⟨os, rfl⟩ := h
  exact ⟨os ++ #[o], by rw [alloc_eq_grow, grow_grow]⟩
theorem Past.end {W w' : World} {X Y : Array Value} (h : Past W X Y w') : ∃ q os, w' = grow (W.drewN q) os := by
  obtain ⟨os, rfl⟩ := h
  refine ⟨1, #[.cells X 43 (0, 0)] ++ #[.cells Y 43 (0, 0)] ++ os, ?_⟩
  unfold Twos
  rw [alloc_eq_grow, alloc_eq_grow, grow_grow, drew_grow, grow_grow]
  rfl
set_option maxRecDepth 100000 in
set_option maxHeartbeats 4000000 in
theorem closure62 (x y : PEl) (W : World) :
    Calls Try.prog 62 #[.agg (encE x).toArray, .agg (encE y).toArray] W fun e w' => e = .returned (.int .i64 (cfE x y)) ∧ ∃ q os, w' = grow (W.drewN q) os := by
  have HSZ := Lib.hid size43
  have HLX := Lib.hid (encE_length x)
  have HLY := Lib.hid (encE_length y)
  have HFX := Lib.hid (fun W => from64x W (El.at_ x.2))
  have HFY := Lib.hid (fun W => from64x W (El.at_ y.2))
  have hS0 : Past W (encE x).toArray (encE y).toArray ((W.alloc (.cells (encE x).toArray 43)).alloc (.cells (encE y).toArray 43)).drew := ⟨#[], by rw [grow_empty]; rfl⟩
  obtain ⟨X, hX⟩ : ∃ X, X = encE x := ⟨_, rfl⟩
  obtain ⟨Y, hY⟩ : ∃ Y, Y = encE y := ⟨_, rfl⟩
  rw [show x.1.cells = X from hX.symm] at HFX
  rw [show y.1.cells = Y from hY.symm] at HFY
  rw [← hX] at HLX hS0 ⊢
  rw [← hY] at HLY hS0 ⊢
  have HC : Hid (cfE x y = cmpI (frm x.1.pk) (frm y.1.pk)) := Lib.hid rfl
  generalize frm x.1.pk = fx at *
  generalize frm y.1.pk = fy at *
  have HS0 := Lib.hid hS0
  have HK := Lib.hid (fun W => cmp63 fx fy W)
  generalize cfE x y = z at *
  clear hX hY hS0
  obtain ⟨q, hq⟩ : ∃ q, q = W.heap.size := ⟨_, rfl⟩
  obtain ⟨q2, hq2⟩ : ∃ q, q = W.heap.size + 1 := ⟨_, rfl⟩
  have HX : Hid (∀ w', Past W X.toArray Y.toArray w' → w'.heap[q]? = some (.cells X.toArray 43 (0, 0))) := Lib.hid fun w' h => by rw [hq]; exact h.x
  have HY : Hid (∀ w', Past W X.toArray Y.toArray w' → w'.heap[q2]? = some (.cells Y.toArray 43 (0, 0))) := Lib.hid fun w' h => by rw [hq2]; exact h.y
  rw [HC.out]
  clear HC
  go_enter Try.func62, Try.ntmps62
  go_wp2_with fail
  rw [← hq2, ← hq]
  clear hq hq2
  have hS0 := HS0.out
  refine wp_region_held_drew (S := fun w' => Past W X.toArray Y.toArray w') (by kernel_rfl) hS0 ?_
  clear hS0
  intro HS
  refine wpAnyH_take (i := 0) (v := .agg X.toArray) rfl (by kernel_rfl) (by kernel_rfl) (by kernel_rfl) (fun _ _ _ h => h) (by refine yieldsIf_load_mid ?hw 43 (.tmp 2) ?ho q 0 ?hx X _ (fun W hW => row_of (HX.out _ hW)) Try.underlying43 rfl (by rw [HLX.out]; exact HSZ.out); (case ho => rfl); (case hw => go_simp); (case hx => go_simp)) HS ?_
  try simp only [List.getElem_toArray, List.getElem_cons_zero, List.getElem_cons_succ, Act.put, List.setIfInBounds_toArray, List.set_cons_zero, List.set_cons_succ]
  refine wpAnyH_take (i := 2) (v := .agg Y.toArray) rfl (by kernel_rfl) (by kernel_rfl) (by kernel_rfl) (fun _ _ _ h => h) (by refine yieldsIf_load_mid ?hw 43 (.tmp 3) ?ho q2 0 ?hx Y _ (fun W hW => row_of (HY.out _ hW)) Try.underlying43 rfl (by rw [HLY.out]; exact HSZ.out); (case ho => rfl); (case hw => go_simp); (case hx => go_simp)) HS ?_
  try simp only [List.getElem_toArray, List.getElem_cons_zero, List.getElem_cons_succ, Act.put, List.setIfInBounds_toArray, List.set_cons_zero, List.set_cons_succ]
  refine wpAnyH_ready (rs := [1]) (by kernel_rfl) (by simp) ?_
  refine AllReadyH.cons rfl (fun K hK => ?_) AllReadyH.nil
  rw [if_pos (by kernel_rfl)]
  simp only [List.getElem_toArray, List.getElem_cons_zero, List.getElem_cons_succ]
  go_simp
  refine (HFX.out _).mono ?_
  rintro e w2 ⟨rfl, rfl⟩
  go_simp
  refine hK.out _ _ ((Past.alloc HS _)) (fun HS => ?_)
  clear hK
  try simp only [List.getElem_toArray, List.getElem_cons_zero, List.getElem_cons_succ, Act.put, List.setIfInBounds_toArray, List.set_cons_zero, List.set_cons_succ]
  refine wpAnyH_ready (rs := [3]) (by kernel_rfl) (by simp) ?_
  refine AllReadyH.cons rfl (fun K hK => ?_) AllReadyH.nil
  rw [if_pos (by kernel_rfl)]
  simp only [List.getElem_toArray, List.getElem_cons_zero, List.getElem_cons_succ]
  go_simp
  refine (HFY.out _).mono ?_
  rintro e w2 ⟨rfl, rfl⟩
  go_simp
  refine hK.out _ _ ((Past.alloc HS _)) (fun HS => ?_)
  clear hK
  try simp only [List.getElem_toArray, List.getElem_cons_zero, List.getElem_cons_succ, Act.put, List.setIfInBounds_toArray, List.set_cons_zero, List.set_cons_succ]
  refine wpAnyH_ready (rs := [4]) (by kernel_rfl) (by simp) ?_
  refine AllReadyH.cons rfl (fun K hK => ?_) AllReadyH.nil
  rw [if_pos (by kernel_rfl)]
  simp only [List.getElem_toArray, List.getElem_cons_zero, List.getElem_cons_succ]
  go_simp
  refine (HK.out _).mono ?_
  rintro e w2 ⟨rfl, rfl⟩
  go_simp
  refine hK.out _ _ (HS) (fun HS => ?_)
  clear hK
  try simp only [List.getElem_toArray, List.getElem_cons_zero, List.getElem_cons_succ, Act.put, List.setIfInBounds_toArray, List.set_cons_zero, List.set_cons_succ]
  refine wpAnyH_take (i := 5) (v := (.int .i64 (cmpI fx fy))) rfl (by kernel_rfl) (by kernel_rfl) (by kernel_rfl) (fun _ _ _ h => h) (Or.inl ⟨by go_simp, fun W hW => by go_simp⟩) HS ?_
  try simp only [List.getElem_toArray, List.getElem_cons_zero, List.getElem_cons_succ, Act.put, List.setIfInBounds_toArray, List.set_cons_zero, List.set_cons_succ]
  refine wpAnyH_done (by kernel_rfl) ?_ _
  have HE := Lib.hid HS.end
  clear HS
  go_wp2_with fail
  go_ret
  exact ⟨rfl, HE.out⟩
theorem eg62 : ∀ args w, (callFunc 62 args).run Try.prog w = .ok (.enter 62 args) w := enters_of Try.func62 (by kernel_rfl) rfl
theorem cmpL62 (g size : Nat) (w : World) : CmpLays Try.prog 62 #[] encE 40 cfE g 0 size w := fun _ _ _ _ x y => closure62 x y _
end Go.Proofs.Ytjldcblklbikaaa

/- Parts cloned, and sorted by their places: the walks. No condition but that there are some. -/
namespace Go.Proofs.Ytjldcblklbikaaa
open Go.RowKit Go.Sort Go.Shelf Go.Lib
set_option linter.unusedVariables false
set_option linter.unusedSimpArgs false
/-- a packet's cells, by its tail -/
def pkT (s d : List Nat) (T : List Value) : List Value := row8 s ++ (row8 d ++ T)
theorem pkT_set {s d : List Nat} {T : List Value} {j : Nat} {v : Value} (h1 : s.length = 16) (h2 : d.length = 16) : (pkT s d T).toArray.setIfInBounds (32 + j) v = (pkT s d (T.set j v)).toArray := by
  unfold pkT
  rw [List.setIfInBounds_toArray, List.set_append_right _ _ (by rw [row8_length]; omega), List.set_append_right _ _ (by rw [row8_length, row8_length]; omega)]
  rw [show 32 + j - (row8 s).length - (row8 d).length = j by rw [row8_length, row8_length]; omega]
def tailV (x : Pk) (v : Value) : List Value := [.int .u8 (x.hops : Int), .bool x.alert, .bool x.is, .int .u32 (x.id : Int), .int .u16 (x.off : Int), .bool x.more, .int .u8 (x.next : Int), v]
/-- a packet's cells, the body as it may be -/
def pkV (x : Pk) (v : Value) : List Value := pkT x.src x.dst (tailV x v)
theorem pkV_eq (x : Pk) (A : Option Addr) (c : Nat) : pkV x (.slice A x.body.length c) = pkL x A c := rfl
theorem pkV_length {x : Pk} {v : Value} (h : PkOk x) : (pkV x v).length = 40 := by simp [pkV, pkT, tailV, row8_length, h.src, h.dst]
theorem pkV_tail {x : Pk} {v : Value} (h : PkOk x) (j : Nat) : (pkV x v)[32 + j]? = (tailV x v)[j]? := by
  unfold pkV pkT
  rw [List.getElem?_append_right (by rw [row8_length, h.src]; omega), row8_length, h.src, List.getElem?_append_right (by rw [row8_length, h.dst]; omega), row8_length, h.dst]
  congr 1; omega
theorem pkV_one {x : Pk} {v : Value} (hv : v.oneCell' = true) : ∀ u ∈ pkV x v, u.oneCell' = true := by
  intro u hu
  rcases List.mem_append.1 hu with hu | hu
  · exact row8_one _ u hu
  rcases List.mem_append.1 hu with hu | hu
  · exact row8_one _ u hu
  · simp only [tailV, List.mem_cons, List.not_mem_nil, or_false] at hu
    rcases hu with rfl | rfl | rfl | rfl | rfl | rfl | rfl | rfl <;> first | rfl | exact hv
theorem own_oneCell {w : World} {B e s n : Nat} {v : Value} {xs : List Value} (h : w.ownsRow B e s v n xs) : v.oneCell' = true := by
  rcases h.2 with ⟨rfl, _⟩ | ⟨g, cap, cur, rfl, _⟩ <;> rfl
theorem info43 : (Try.prog.info? 43).map (fun i => (i.zero, i.size, i.bytes)) = some (some (.agg (pkL nilPk none 0).toArray), 40, 80) := by kernel_rfl
theorem info5' : (Try.prog.info? 5).map (fun i => (i.zero, i.size, i.bytes)) = some (some (.int .u8 0), 1, 1) := info5
/-- bytes that read, behind bytes of one's own -/
theorem wpList_append_bs {ops : Array Oper} {rest : List Oper} {o : Oper} {a : Act} {w : World} {Q : Exit → Act → World → Prop} (hgd : o.guard = none) (s x : Operand)
    (ho : o.op = .call { callee := .builtin .append, args := #[s, x], argTypes := #[41, 41] }) (base : Nat)
    (v : Value) (n : Nat) (xs : List Value) (hs : a.eval s = v) (hown : w.ownsRow base 5 1 v n xs) (A : Option Addr) (c : Nat) (l : List Nat) (hx : a.eval x = .slice A l.length c) (hb : Bs w w.heap.size A c l)
    (hlen : n + l.length ≤ 1000000000) (hbase : base ≤ w.heap.size)
    (h : ∀ v' w', w'.ownsRow base 5 1 v' (n + l.length) (xs ++ row8 l) → w.grownBy w' v.ownBlock → (v' = .slice none 0 0 ↔ v = .slice none 0 0 ∧ A = none ∨ v = .slice none 0 0 ∧ l.length = 0) → wpList Try.prog ops Q rest (a.put o.dst v') w') : wpList Try.prog ops Q (o :: rest) a w := by
  obtain ⟨i5, hi, hz0, hz1, hz2⟩ := info_parts info5
  cases A with
  | none =>
    obtain ⟨rfl, rfl⟩ := hb.nil rfl
    refine wpList_append_own_none hgd s x 41 ho base 5 i5 1 Try.underlying41 hi v n xs hs hown hx ?_
    exact h _ _ (by simpa [row8] using hown) ⟨rfl, rfl, rfl, Nat.le_refl _, fun _ _ _ => rfl⟩ (by simp)
  | some ad =>
    refine wpList_append_own w hgd s x 41 ho base 5 i5 (.int .u8 0) 1 1 Try.underlying41 hi hz0 hz1 hz2 rfl (by decide) v n xs hs hown ad l.length c (row8 l) hx (by rw [row8_length]; omega) ?_ (row8_one l) (by unfold maxLen; omega) (by omega) hbase ?_
    · intro j u hu
      obtain ⟨y, hy, rfl⟩ := row8_inv hu
      obtain ⟨b', o', e, hb', hc⟩ := hb.rd (by rintro rfl; simp at hy)
      cases e
      have hadd : (⟨b', o', none⟩ : Addr).add j = ⟨b', o' + j, none⟩ := by unfold Addr.add; split <;> simp_all
      rw [hadd]; exact hc j y hy
    · intro v' w' h1 h2 h3
      exact h v' w' h1 h2 (by rw [h3]; simp)
theorem flat_one {L : List El} (h : ∀ e ∈ L, PkOk e.pk) : ∀ u ∈ L.flatMap El.cells, u.oneCell' = true := by
  intro u hu
  obtain ⟨e, he, hu⟩ := List.mem_flatMap.1 hu
  exact (El.at_ (h e he)).one u hu
theorem flat_len {L : List El} (h : ∀ e ∈ L, PkOk e.pk) : (L.flatMap El.cells).length = L.length * 40 := by
  induction L with
  | nil => rfl
  | cons e L ih =>
    rw [List.flatMap_cons, List.length_append, ih (fun e he => h e (List.mem_cons_of_mem _ he)), (El.at_ (h e List.mem_cons_self)).len, List.length_cons]; omega
set_option maxRecDepth 100000 in
set_option maxHeartbeats 1000000 in
theorem clone60p {B : Nat} {v : Value} {L : List El} (w : World) (h : w.ownsRow B 43 40 v L.length (L.flatMap El.cells)) (hok : ∀ e ∈ L, PkOk e.pk) (hL : L ≠ []) (hm : L.length ≤ 32) :
    Calls Try.prog 60 #[v] w fun e w' => ∃ g cap, e = .returned (.slice (some ⟨g, 0, none⟩) L.length cap) ∧ w'.ownsRow w.heap.size 43 40 (.slice (some ⟨g, 0, none⟩) L.length cap) L.length (L.flatMap El.cells) ∧ Below w.heap.size w w' := by
  obtain ⟨i43, hi, hz0, hz1, hz2⟩ := info_parts info43
  rcases h.2 with ⟨rfl, hl⟩ | ⟨g, cap, cur, rfl, hb, hg, hn, hx, hs, ht⟩
  · exact absurd (List.length_eq_zero_iff.1 hl) hL
  · have hd : ∀ W : World, W.heap = (w.alloc (.cells #[] 43)).heap → ∀ j u, (L.flatMap El.cells)[j]? = some u → W.cell? ((⟨g, 0, none⟩ : Addr).add j) = some u := by
      intro W hW j u hu
      have hadd : (⟨g, 0, none⟩ : Addr).add j = ⟨g, 0 + j, none⟩ := by unfold Addr.add; split <;> simp_all
      rw [hadd, Nat.zero_add]
      have hg' : W.heap[g]? = some (.cells cur 43 (0, 0)) := by rw [hW, heap_alloc_old w _ (lt_of_blk hg)]; exact hg
      rw [cell_blk hg']
      rw [← ht, List.getElem?_take] at hu
      split at hu
      · simpa using hu
      · cases hu
    have hown : (w.alloc (.cells #[] 43)).ownsRow w.heap.size 43 40 (.slice (some ⟨w.heap.size, 0, none⟩) 0 0) 0 [] := World.ownsRow_made w #[] 0 (Nat.le_refl _) (by unfold maxLen; omega) (by simp)
    have hne := fun (n : Nat) (W : World) => Lib.run_eql_slice_nil (P := Try.prog) W 46 43 (some ⟨g, 0, none⟩) n cap 0 0 Try.underlying46
    simp only [Option.isNone_some] at hne
    have HD := Lib.hid hd
    have HO := Lib.hid hown
    have HLL := Lib.hid (flat_len hok)
    have HL1 := Lib.hid (flat_one hok)
    obtain ⟨X, hX⟩ : ∃ X, X = L.flatMap El.cells := ⟨_, rfl⟩
    rw [← hX] at HD HLL HL1 ⊢
    obtain ⟨n, hn'⟩ : ∃ n, L.length = n := ⟨_, rfl⟩
    have hpos : 0 < n := by rw [← hn']; exact List.length_pos_iff.2 hL
    rw [hn'] at HLL hm ⊢
    clear h hb hg hn hx hs ht hd hown hX hn' hok hL
    go_enter Try.func60, Try.ntmps60
    go_wp2_with (at_builtin; refine wpList_append_own _ rfl _ _ 46 rfl w.heap.size 43 i43 _ 40 80 Try.underlying46 hi hz0 hz1 hz2 ?c0 (by decide) _ _ _ rfl HO.out ⟨g, 0, none⟩ n cap X rfl ?c1 ?c2 HL1.out ?c3 ?c4 ?c5 ?_)
    case c0 => kernel_rfl
    case c1 => rw [HLL.out]
    case c2 => exact HD.out _ rfl
    case c3 => unfold maxLen; omega
    case c4 => omega
    case c5 => simp
    intro v' w1 hown' hgrow hnil
    have HR := Lib.hid hown'
    have HG := Lib.hid hgrow
    have HN := Lib.hid hnil
    clear hown' hgrow hnil
    go_wp2_with fail
    go_ret
    have hB : Below w.heap.size w w1 := Below.grown' ((Below.refl _ _).alloc (Nat.le_refl _) _) HG.out (by simp) (fun k hk => by simp [Value.ownBlock] at hk; omega)
    have hR := HR.out
    rcases hR.2 with ⟨rfl, hl⟩ | ⟨g', cap', cur', rfl, hb', r⟩
    · exact absurd hl (by omega)
    · exact ⟨g', cap', rfl, hR, hB⟩
theorem lift_els : ∀ (L : List El), (∀ e ∈ L, PkOk e.pk) → ∃ ks : List PEl, ks.map (·.1) = L
  | [], _ => ⟨[], rfl⟩
  | e :: L, h => by
    obtain ⟨ks, hk⟩ := lift_els L (fun e he => h e (List.mem_cons_of_mem _ he))
    exact ⟨(⟨e, h e List.mem_cons_self⟩ : PEl) :: ks, by show e :: ks.map (·.1) = _; rw [hk]⟩
theorem flat_at : ∀ (ks : List PEl) (i c : Nat) (k : PEl), ks[i]? = some k → c < 40 → (ks.flatMap encE)[i * 40 + c]? = (encE k)[c]?
  | [], i, c, k, h, _ => by simp at h
  | a :: ks, 0, c, k, h, hc => by
    have h : a = k := by simpa using h
    subst h
    rw [List.flatMap_cons, Nat.zero_mul, Nat.zero_add, List.getElem?_append_left (by rw [encE_length]; exact hc)]
  | a :: ks, i + 1, c, k, h, hc => by
    rw [List.flatMap_cons, List.getElem?_append_right (by rw [encE_length]; omega), encE_length, show (i + 1) * 40 + c - 40 = i * 40 + c from by omega]
    exact flat_at ks i c k (by simpa using h) hc
theorem holds_of_own {ks : List PEl} {g cap B : Nat} {w : World} (h : w.ownsRow B 43 40 (.slice (some ⟨g, 0, none⟩) ks.length cap) ks.length (ks.flatMap encE)) : HoldsK encE 40 w g 0 ks.toArray ∧ g < w.heap.size := by
  obtain ⟨h0, h1 | ⟨g', cap', cur, e, hb, hg, hn, hm, hs, ht⟩⟩ := h
  · cases h1.1
  · injection e with e1 e2 e3
    injection e1 with e1
    injection e1 with e1
    subst e1 e3
    refine ⟨fun j hj => ?_, lt_of_blk hg⟩
    have hj : j < ks.length * 40 := by simpa using hj
    have hi : j / 40 < ks.length := by omega
    have hk : ks[j / 40]? = some ks[j / 40] := List.getElem?_eq_getElem hi
    have hf := flat_at ks (j / 40) (j % 40) _ hk (Nat.mod_lt _ (by decide))
    rw [show j / 40 * 40 + j % 40 = j from by omega] at hf
    refine ⟨?_, frozen_blk hg _⟩
    rw [Nat.zero_add, cell_blk hg, show id (flatK encE 40 ks.toArray)[j]! = (flatK encE 40 ks.toArray)[j]! from rfl, get_flatK _ _ _ _ (by simpa using hj)]
    have hc : cur[j]? = (ks.flatMap encE)[j]? := by
      rw [← ht, List.getElem?_take_of_lt hj]; simp
    rw [hc, hf]
    have hl : j % 40 < (encE ks[j / 40]).length := by rw [encE_length]; exact Nat.mod_lt _ (by decide)
    have e1 : (ks.toArray)[j / 40]! = ks[j / 40] := by simp [hi]
    rw [e1, List.getElem?_eq_getElem hl]
    simp [hl]
/-- what the sort leaves -/
structure SortedE (L M : List El) (g : Nat) (w w' : World) : Prop where
  perm : M.Perm L
  up : M.Pairwise fun a b => frm a.pk ≤ frm b.pk
  holds : ∀ k e, M[k]? = some e → w'.rangeAt g (0 + k * 40) e.cells
  grown : w.grownBy w' (some g)
theorem sort61 {L : List El} {g cap B : Nat} (w : World) (h : w.ownsRow B 43 40 (.slice (some ⟨g, 0, none⟩) L.length cap) L.length (L.flatMap El.cells)) (hok : ∀ e ∈ L, PkOk e.pk) (hn : L.length ≤ 1000000) :
    Calls Try.prog 61 #[.slice (some ⟨g, 0, none⟩) L.length cap, .func (.func 62) #[] #[]] w fun e w' => e = .returned (.tuple #[]) ∧ ∃ M, SortedE L M g w w' := by
  obtain ⟨ks, rfl⟩ := lift_els L hok
  have hfl : (ks.map (·.1)).flatMap El.cells = ks.flatMap encE := by rw [List.flatMap_map]; rfl
  rw [hfl] at h
  rw [List.length_map] at h hn ⊢
  obtain ⟨hH, hblk⟩ := holds_of_own h
  have hcon := AnyQ.slices_SortFunc Try.sortE 40 Try.isAgg43 Try.sizeOf43 encE encE_length encE_one cfE swoE 62 #[] g 0 cap ks.toArray w eg62 (cmpL62 g _ w) hH hblk (by simp; omega)
  change Calls Try.prog 61 _ _ _ at hcon
  rw [List.size_toArray] at hcon
  refine hcon.mono ?_
  rintro e w' ⟨rfl, d', n, os, hp, hs, rfl⟩
  have hsz : d'.size = ks.length := by have := hp.1; simpa using this
  have hh := holdsK_sortWorldK encE 40 w g 0 n ks.toArray d' os hblk hH (by simpa using hsz)
  refine ⟨rfl, d'.toList.map (·.1), ?_, ?_, ?_, ?_⟩
  · have := hp.2.2
    have e1 : d'.extract 0 ks.length = d' := by rw [← hsz]; simp
    have e2 : (ks.toArray.extract 0 ks.length) = ks.toArray := by simp
    rw [e1, e2] at this
    have h2 : d'.toList.Perm ks := by simpa using this
    exact h2.map _
  · rw [List.pairwise_map, List.pairwise_iff_getElem]
    intro i j hi hj hij
    have hj' : j < d'.size := by simpa using hj
    have := hs i j (Nat.zero_le _) hij (by omega)
    rw [ltE] at this
    have e1 : d'[i]! = d'.toList[i] := by rw [getElem!_pos d' i (by omega)]; simp
    have e2 : d'[j]! = d'.toList[j] := by rw [getElem!_pos d' j hj']; simp
    rw [e1, e2] at this
    simpa using this
  · intro i e hi c v hc
    rw [List.getElem?_map] at hi
    obtain ⟨k, hk, rfl⟩ := Option.map_eq_some_iff.1 hi
    have hi' : i < d'.size := by have := (List.getElem?_eq_some_iff.1 hk).1; simpa using this
    have hc' : c < 40 := by have := (List.getElem?_eq_some_iff.1 hc).1; rwa [show (k.1).cells.length = 40 from encE_length k] at this
    have hj : i * 40 + c < (flatK encE 40 d').size := by rw [size_flatK]; omega
    have q := hh (i * 40 + c) hj
    rw [Nat.zero_add] at q
    rw [Nat.zero_add]
    refine q.1.trans ?_
    rw [show id (flatK encE 40 d')[i * 40 + c]! = (flatK encE 40 d')[i * 40 + c]! from rfl, get_flatK _ _ _ _ (by simpa using hj), show (i * 40 + c) / 40 = i from by omega, show (i * 40 + c) % 40 = c from by omega]
    have e1 : d'[i]! = k := by rw [getElem!_pos d' i hi']; have := (List.getElem?_eq_some_iff.1 hk).2; simpa using this
    rw [e1]
    have hl := (List.getElem?_eq_some_iff.1 hc).1
    have hl' : c < (encE k).length := hl
    rw [getElem!_pos (encE k) c hl']
    have := (List.getElem?_eq_some_iff.1 hc).2
    rw [← this]; rfl
  · refine ⟨rfl, rfl, rfl, ?_, fun k hk hne => ?_⟩
    · show w.heap.size ≤ ((w.heap.modify g _) ++ os).size
      simp
    · show ((w.heap.modify g _) ++ os)[k]? = _
      rw [Array.getElem?_append_left (by simpa using hk), Array.getElem?_modify, if_neg (fun e => hne (by rw [e]))]
end Go.Proofs.Ytjldcblklbikaaa
