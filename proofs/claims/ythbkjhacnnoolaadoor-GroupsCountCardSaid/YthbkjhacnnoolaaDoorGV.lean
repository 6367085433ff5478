/- The keys of a map by rising addresses: SortFunc, SortedFunc, rising, List: the walks. No condition beyond those named. (Written out by exp.py.) -/
import Derived.Test.YthbkjhacnnoolaaDoorGU
import Derived.Sort.OwnSorted
namespace Go.Proofs.YthbkjhacnnoolaaDoor
open Go.RowKit Go.Sort Go.Shelf Go.Lib Go.Maps
set_option linter.unusedVariables false
set_option linter.unusedSimpArgs false
theorem flatK_toList (ks : List AdrT) : (flatK encT 16 ks.toArray).toList = flatT ks := by
  apply List.ext_getElem?
  intro j
  rw [Array.getElem?_toList]
  by_cases hj : j < ks.length * 16
  · have hi : j / 16 < ks.length := by omega
    have hk : ks[j / 16]? = some ks[j / 16] := List.getElem?_eq_getElem hi
    have hf := flatT_at ks (j / 16) (j % 16) _ hk (Nat.mod_lt _ (by decide))
    rw [show j / 16 * 16 + j % 16 = j from by omega] at hf
    have hl : j % 16 < (encT ks[j / 16]).length := by rw [encT_length]; exact Nat.mod_lt _ (by decide)
    have hs : j < (flatK encT 16 ks.toArray).size := by simpa using hj
    rw [hf, Array.getElem?_eq_getElem hs, ← getElem!_pos (flatK encT 16 ks.toArray) j hs, get_flatK _ _ _ _ (by simpa using hj)]
    have e1 : (ks.toArray)[j / 16]! = ks[j / 16] := by simp [hi]
    rw [e1, List.getElem?_eq_getElem hl]
    simp [hl]
  · rw [Array.getElem?_eq_none (by simp; omega), List.getElem?_eq_none (by rw [flatT_length]; omega)]
theorem heap_sortedK {w : World} {g n : Nat} {os : Array Obj} {cur : Array Value} {e : TypeId} {fr : Nat × Nat} (d : Array Value) (hb : w.heap[g]? = some (.cells cur e fr)) :
    (grow (putRow id (Sort.ahead w n) g 0 d) os).heap[g]? = some (.cells (putCells id 0 d cur) e fr) := by
  have hg : g < w.heap.size := (Array.getElem?_eq_some_iff.1 hb).1
  rw [heap_grow_old _ _ (by simpa using hg)]
  simp [putRow, mapBlock, Sort.ahead, Array.getElem?_modify, hb, onCells]
theorem grownBy_sortedK {w : World} {g n : Nat} {os : Array Obj} (d : Array Value) : w.grownBy (grow (putRow id (Sort.ahead w n) g 0 d) os) (some g) := by
  refine ⟨rfl, rfl, rfl, by simp, fun k hk hne => ?_⟩
  rw [heap_grow_old _ _ (by simpa using hk)]
  have : g ≠ k := fun e => hne (by rw [e])
  simp [putRow, mapBlock, Sort.ahead, Array.getElem?_modify, this]
theorem take_putCellsK (cur : Array Value) (d : Array Value) (h : d.size ≤ cur.size) : (putCells id 0 d cur).toList.take d.size = d.toList := by
  apply List.ext_getElem?
  intro j
  by_cases hj : j < d.size
  · rw [List.getElem?_take_of_lt hj, Array.getElem?_toList]
    simp [putCells, hj, show j < cur.size by omega]
  · rw [List.getElem?_take_eq_none (by omega), List.getElem?_eq_none (by simp; omega)]
def sortT (ks : List AdrT) : List AdrT := ks.mergeSort fun x y => !(ltOf cfT) y x
theorem sortT_perm (ks : List AdrT) : (sortT ks).Perm ks := List.mergeSort_perm _ _
theorem sort51 (ks : List AdrT) (g cap B : Nat) (w : World) (h : w.ownsRow B 26 16 (.slice (some ⟨g, 0, none⟩) ks.length cap) ks.length (flatT ks)) (hn : ks.length < 4611686018427387904) :
    Calls Tryd.prog 51 #[.slice (some ⟨g, 0, none⟩) ks.length cap, .func (.func 39) #[] #[]] w fun e w' => e = .returned (.tuple #[]) ∧ w.grownBy w' (some g) ∧ w'.ownsRow B 26 16 (.slice (some ⟨g, 0, none⟩) ks.length cap) ks.length (flatT (sortT ks)) := by
  obtain ⟨hH, hblk⟩ := holds_of_own h
  have hcon := AnyQ.slices_SortFunc_total Tryd.sortE 16 Tryd.isAgg26 Tryd.sizeOf26 encT encT_length encT_one cfT swoT 39 #[] g 0 cap ks.toArray w eg39 (cmp39 g _ w) hH hblk (by simpa using hn) totT
  change Calls Tryd.prog 51 _ _ _ at hcon
  rw [List.size_toArray] at hcon
  refine hcon.mono ?_
  rintro e w' ⟨rfl, n, os, rfl⟩
  have hlen : (sortT ks).length = ks.length := (sortT_perm ks).length_eq
  refine ⟨rfl, grownBy_sortedK _, ?_⟩
  obtain ⟨h0, h1 | ⟨g', cap', cur, e, hb, hg, hn', hm, hs, ht⟩⟩ := h
  · cases h1.1
  · injection e with e1 e2 e3
    injection e1 with e1
    injection e1 with e1
    subst e1 e3
    have hsz : (flatK encT 16 (sortT ks).toArray).size = ks.length * 16 := by rw [size_flatK, List.size_toArray, hlen]
    refine ⟨by rw [flatT_length, hlen], .inr ⟨g, cap, _, rfl, hb, heap_sortedK _ hg, hn', hm, by simp [putCells, hs], ?_⟩⟩
    have := take_putCellsK cur (flatK encT 16 (sortT ks).toArray) (by rw [hsz, hs]; exact Nat.mul_le_mul_right _ hn')
    rw [hsz, flatK_toList] at this
    exact this
/-- rising, each once -/
def Rising (ks : List AdrT) : Prop := ks.Pairwise fun x y => numA x.1 < numA y.1
theorem sortT_rising {ks : List AdrT} (h : ks.Nodup) : Rising (sortT ks) := by
  have hp := List.pairwise_mergeSort (le := fun x y => !(ltOf cfT) y x) (fun a b c h1 h2 => by
    simp only [ltT, Bool.not_eq_true', decide_eq_false_iff_not] at *; omega) (fun a b => by
    simp only [ltT, Bool.or_eq_true, Bool.not_eq_true', decide_eq_false_iff_not]; omega) ks
  have hn : (sortT ks).Nodup := (sortT_perm ks).nodup_iff.2 h
  refine List.Pairwise.imp₂ ?_ hp hn
  intro a b h1 h2
  simp only [ltT, Bool.not_eq_true', decide_eq_false_iff_not] at h1
  have : numA a.1 ≠ numA b.1 := fun e => h2 (numT_inj e)
  omega
theorem flatA_val (ks : List AdrT) : flatA (ks.map (·.1)) = flatT ks := by
  unfold flatA flatT
  rw [List.flatMap_map]
  rfl
theorem lift_adr : ∀ (ss : List (List Nat)), (∀ l ∈ ss, Adr l) → ∃ ks : List AdrT, ks.map (·.1) = ss
  | [], _ => ⟨[], rfl⟩
  | l :: ss, h => by
    obtain ⟨ks, e⟩ := lift_adr ss (fun x hx => h x (List.mem_cons_of_mem _ hx))
    exact ⟨(⟨l, h l List.mem_cons_self⟩ : AdrT) :: ks, congrArg (l :: ·) e⟩
theorem ownsRow_base' {W : World} {base base' : Nat} {e : TypeId} {size : Nat} {v : Value} {k : Nat} {xs : List Value} (h : W.ownsRow base e size v k xs) (hb : base' ≤ base) : W.ownsRow base' e size v k xs := by
  refine ⟨h.1, ?_⟩
  rcases h.2 with hn | ⟨g, cap, cur, hv, hbg, rest⟩
  · exact .inl hn
  · exact .inr ⟨g, cap, cur, hv, Nat.le_trans hb hbg, rest⟩
theorem AllKeys.perm {D : PD} {ss tt : List (List Nat)} (h : AllKeys D ss) (hp : tt.Perm ss) : AllKeys D tt :=
  ⟨fun l hl => h.adr l (hp.mem_iff.1 hl), hp.nodup_iff.2 h.nodup, fun l hl => h.has l (hp.mem_iff.1 hl), fun l ha hh => hp.mem_iff.2 (h.all l ha hh)⟩
set_option maxRecDepth 100000 in
set_option maxHeartbeats 2000000 in
theorem sortedFunc37 (g : Nat) (lb : Array Value) (eg : ∀ args w, (callFunc g args).run Tryd.prog w = .ok (.enter g args) w)
    (D : PD) (N : Nat) (hN : N ≤ 4096) (w : World) (hseq : SeqG Fence.wide 6 g lb (fun ss => AllKeys D ss ∧ ss.length ≤ N) N w) :
    Calls Tryd.prog 37 #[.func (.func g) #[] lb, .func (.func 39) #[] #[]] w fun e w' => ∃ (v : Value) (ks : List AdrT), e = .returned v ∧ AllKeys D (ks.map (·.1)) ∧ Rising ks ∧ w'.ownsRow w.heap.size 26 16 v ks.length (flatT ks) ∧ Below w.heap.size w w' := by
  have hcol := callsIn_wide.1 (collect_in Fence.wide 8 trivial trivial rfl (by omega) g lb trivial eg _ N hN w hseq)
  go_enter Tryd.func37, Tryd.ntmps37
  go_upto_region 2 with (go_at_call 50; refine hcol.mono ?_; rintro e W ⟨v, ss, rfl, ⟨hS, hle⟩, hrow, hb⟩)
  clear hcol
  obtain ⟨ks, rfl⟩ := lift_adr ss hS.adr
  rw [flatA_val, List.length_map] at hrow
  rw [List.length_map] at hle
  rcases hrow.2 with ⟨rfl, hz⟩ | ⟨gb, cap, cur, rfl, hbase, hgb, r1, r2, r3, r4⟩
  · have hss : ks = [] := List.eq_nil_of_length_eq_zero hz
    subst hss
    have hs := AnyF.slices_SortFunc_none Tryd.sortE none 0 (.func (.func 39) #[] #[]) W
    change Calls Tryd.prog 51 _ _ _ at hs
    have HR := Lib.hid hrow
    have HB := Lib.hid hb
    have HS := Lib.hid hS
    clear hrow hb hS hseq eg hle hz
    go_wp2_with (go_at_call 51; refine hs.mono ?_; rintro e w' ⟨rfl, rfl⟩)
    go_ret
    exact ⟨_, [], rfl, HS.out, List.Pairwise.nil, HR.out, HB.out⟩
  · have hs := sort51 ks gb cap w.heap.size W hrow (by omega)
    have HB := Lib.hid hb
    have HS := Lib.hid hS
    have HBs := Lib.hid hbase
    clear hrow hb hS hseq eg hle hgb r1 r2 r3 r4 hbase
    go_wp2_with (go_at_call 51; refine hs.mono ?_; rintro e w' ⟨rfl, hg, hrow⟩)
    go_ret
    have hnd : ks.Nodup := List.Pairwise.imp (fun h e => h (by rw [e])) (List.pairwise_map.1 HS.out.nodup)
    refine ⟨_, sortT ks, rfl, HS.out.perm ((sortT_perm ks).map _), sortT_rising hnd, ?_, HB.out.grown hg HB.out.size (fun j hj => by cases hj; exact HBs.out)⟩
    rw [(sortT_perm ks).length_eq]
    exact hrow
theorem clip29b {A : Option Addr} {n c : Nat} (w : World) (h0 : A = none → n = 0 ∧ c = 0) (h : n ≤ c) (h2 : c < 9223372036854775808) :
    Calls Tryd.prog 29 #[.slice A n c] w fun e w' => e = .returned (.slice A n n) ∧ w = w' := by
  go_enter Tryd.func29, Tryd.ntmps29
  go_wp2_with fail
  go_ret
  exact ⟨rfl, rfl⟩
theorem own_cap {W : World} {base : Nat} {e : TypeId} {size : Nat} {p : Option Addr} {m cap k : Nat} {xs : List Value} (h : W.ownsRow base e size (.slice p m cap) k xs) : (p = none → m = 0 ∧ cap = 0) ∧ m ≤ cap ∧ cap ≤ maxLen := by
  rcases h.2 with ⟨e', h0⟩ | ⟨g, cap', cur, e', _, _, h1, h2, _⟩
  · injection e' with e1 e2 e3; subst e1 e2 e3; exact ⟨fun _ => ⟨rfl, rfl⟩, Nat.le_refl _, Nat.zero_le _⟩
  · injection e' with e1 e2 e3; subst e1 e2 e3; exact ⟨fun h => (by cases h), h1, h2⟩
set_option maxRecDepth 100000 in
set_option maxHeartbeats 2000000 in
theorem rising30 {mj n : Nat} {D : PD} (w : World) (hj : MJ w mj n D) (hAK : AdrKeys D) (ht : Canon D) (hN : Maps.size D ≤ 4096) :
    Calls Tryd.prog 30 #[.map (some mj)] w fun e w' => ∃ (v : Value) (ks : List AdrT), e = .returned v ∧ AllKeys D (ks.map (·.1)) ∧ Rising ks ∧ w'.ownsRow w.heap.size 26 16 v ks.length (flatT ks) ∧ Below w.heap.size w w' := by
  have hal : Below w.heap.size w (w.alloc (.cells #[.map (some mj)] 53)) := (Below.refl _ _).alloc (Nat.le_refl _) _
  have hc : (w.alloc (.cells #[.map (some mj)] 53)).cell? ⟨w.heap.size, 0, none⟩ = some (.map (some mj)) := cell_blk (World.alloc_heap_new w _) 0
  have hseq : SeqG Fence.wide 6 52 #[.pointer (some ⟨w.heap.size, 0, none⟩)] (fun ss => AllKeys D ss ∧ ss.length ≤ Maps.size D) (Maps.size D) (w.alloc (.cells #[.map (some mj)] 53)) := fun l J W hW hJ hY h0 => by
    refine (keys_gives2 Fence.wide 6 trivial rfl (by omega) w.heap.size mj n D hAK (w.alloc (.cells #[.map (some mj)] 53)) (by simp) hc (owns_below hj hal) l J W hW hJ hY h0).mono ?_
    rintro e W' ⟨h1, ss, hS, hJ'⟩
    exact ⟨h1, ss, ⟨hS, Nat.le_of_eq (hS.length ht hAK)⟩, hJ'⟩
  have hs := sortedFunc37 52 _ (enters_of Tryd.func52 (by kernel_rfl) rfl) D (Maps.size D) hN (w.alloc (.cells #[.map (some mj)] 53)) hseq
  have hk := keys38 (mj := mj) w
  have HAL := Lib.hid hal
  obtain ⟨W0, hW0⟩ : ∃ W0, W0 = w.alloc (.cells #[.map (some mj)] 53) := ⟨_, rfl⟩
  rw [← hW0] at hs hk HAL
  clear hseq hc hj hAK ht hN hal hW0
  go_enter Tryd.func30, Tryd.ntmps30
  go_wp2_with (first
    | (go_at_call 38; refine hk.mono ?_; rintro e w' ⟨rfl, rfl⟩)
    | (go_at_call 37; refine hs.mono ?_; rintro e w' ⟨v, ks, rfl, hS, hR, hrow, hb⟩))
  go_ret
  exact ⟨v, ks, rfl, hS, hR, ownsRow_base' hrow HAL.out.size, HAL.out.trans (hb.mono HAL.out.size)⟩
end Go.Proofs.YthbkjhacnnoolaaDoor
