/- Of an option its addresses: the walks. No condition but that the bytes are bytes. (Printed by gTellV.py.) -/
import Derived.Test.YtfolamkjlgpgmaaGreatDoorTellS
namespace Go.Proofs.YtfolamkjlgpgmaaGreatDoor
open Go.RowKit
set_option linter.unusedVariables false
set_option linter.unusedSimpArgs false
/-- is it a list of addresses? -/
def isSrv (kd : Nat) (l : List Nat) : Bool := kd == 25 && decide (22 ≤ l.length ∧ l.length % 16 = 6)
def ToldPost (w : World) (l : List Nat) (r : Bool) (e : Ending) (w' : World) : Prop :=
  Below w.heap.size w w' ∧ ((r = false ∧ e = .returned (.tuple #[.agg #[.int .u32 0, .slice none 0 0], .bool false])) ∨
   (r = true ∧ ∃ A k, e = .returned (.tuple #[.agg #[.int .u32 (num1 l 2 4 : Nat), .slice A (adN l) k], .bool true]) ∧ w'.ownsRow w.heap.size 32 16 (.slice A (adN l) k) (adN l) (row8 (adrsB (adrsOf l (adN l))))))
theorem sizeZ127 : (Tryz.prog.info? 79).map (·.size) = some (#[.int .u32 0, .slice none 0 0] : Array Value).size := by kernel_rfl
set_option maxRecDepth 100000 in
set_option maxHeartbeats 4000000 in
theorem told92 {q kd : Nat} {A : Option Addr} {c : Nat} {l : List Nat} (w : World) {v : Value} (hq : w.heap[q]? = some (.cells #[.int .u8 (kd : Int), v] 24 (0, 0))) (h : Bs w w.heap.size A c l) (hl : l.length ≤ 1000000000) (h256 : ∀ x ∈ l, x < 256) {r : Bool} (hr : isSrv kd l = r) :
    Calls Tryz.prog 40 #[.slice A l.length c, .int .i64 (l.length : Int), .func (.func 41) #[] #[.pointer (some ⟨q, 0, none⟩)]] w (ToldPost w l r) := by
  obtain ⟨V, hV⟩ : ∃ V, V = w.alloc (.cells #[.int .u32 0, .slice none 0 0] 79) := ⟨_, rfl⟩
  have hz : V.heap[w.heap.size]? = some (.cells #[.int .u32 0, .slice none 0 0] 79 (0, 0)) := by rw [hV, heap_alloc_new]
  have hBV : Below w.heap.size w V := by rw [hV]; exact (Below.refl _ _).alloc (Nat.le_refl _) _
  have hVs : V.heap.size = w.heap.size + 1 := by rw [hV]; simp
  have HZ := Lib.hid hz; have HBV := Lib.hid hBV; have HVS := Lib.hid hVs
  have hqV := (hBV.block q (lt_of_blk hq)).trans hq
  have HQ := Lib.hid hqV; have HQL := Lib.hid (lt_of_blk hq)
  have HO := Lib.hid (of47 (c := c) V (h.below hBV) hl)
  have HSZ := Lib.hid sizeZ127
  have HZ1 : Hid (((#[.int .u32 0, .slice none 0 0] : Array Value).all (·.oneCell')) = true) := Lib.hid (by simp [Value.oneCell'])
  have H256 := Lib.hid h256; have HR := Lib.hid hr; have HLL := Lib.hid hl
  obtain ⟨n, hn⟩ : ∃ n, l.length = n := ⟨_, rfl⟩
  have HN := Lib.hid hn
  rw [hn] at HO ⊢
  clear hz hBV hVs hq h hqV h256 hn hr hl
  have t0 : ((n : Int) != (n : Int)) = false := by simp
  go_enter Tryz.func40, Tryz.ntmps40
  go_wp2_with fail
  rw [← hV]
  clear hV
  refine (HO.out).mono ?_
  rintro e w1 ⟨p, g, c1, rfl, k1, k2, k3, k4⟩
  have hS1 : CS V q kd v p g c1 0 l w1 := ⟨k1, (k4.block q (by rw [HVS.out]; have := HQL.out; omega)).trans HQ.out, k2, by have := HQL.out; have := HVS.out; omega, k4⟩
  have HB1 := Lib.hid k4
  have HCL := Lib.hid (srv93 w1 hS1 HLL.out H256.out HR.out)
  clear k1 k2 k3 k4 hS1 HO
  go_wp2_with fail
  refine (HCL.out).mono ?_
  rintro e w2 hP
  clear HCL
  rcases hP with ⟨rfl, A2, k2, rfl, hS2, ho2⟩ | ⟨rfl, x, A2, n2, k2, rfl, hb2⟩
  · have hn3 := heap_alloc_new w2 (.cells #[.int .u32 0, .slice none 0 0] 79)
    have hb3 : Below w2.heap.size w2 (w2.alloc (.cells #[.int .u32 0, .slice none 0 0] 79)) := (Below.refl _ _).alloc (Nat.le_refl _) _
    obtain ⟨m, hm⟩ : ∃ m, adN l = m := ⟨_, rfl⟩
    obtain ⟨x, hx⟩ : ∃ x, num1 l 2 4 = x := ⟨_, rfl⟩
    have HM := Lib.hid hm; have HX := Lib.hid hx
    rw [hm] at ho2 ⊢
    rw [hx]
    have t3 := Turned.setRow hn3 #[.int .u32 (x : Int), .slice A2 m k2]
    have hb4 := hb3.trans (t3.below (Nat.le_refl _))
    have HN3 := Lib.hid hn3
    have HSC := Lib.hid (sizeL127 x m k2 A2)
    have HC1 := Lib.hid (oneL127 x m k2 A2)
    have hlt : w.heap.size < w1.heap.size := by have := HB1.out.size; have := HVS.out; omega
    have HLT := Lib.hid hlt
    have HS4 := Lib.hid (hS2.step hb4)
    have HO4 := Lib.hid (own_below ho2 hb4)
    have HT9 := Lib.hid (t3.get (lt_of_blk hn3))
    have HZ4 := Lib.hid (((hS2.step hb4).below.block w.heap.size (by rw [HVS.out]; omega)).trans HZ.out)
    clear hS2 hn3 hb3 t3 hb4 ho2 hm hx hlt
    go_wp2_with (refine wpList_store_row rfl 79 _ _ rfl w2.heap.size #[.int .u32 (x : Int), .slice A2 m k2] rfl rfl 79 _ HN3.out HSC.out ?hold HC1.out ?_)
    case hold => rfl
    obtain ⟨W, hW⟩ : ∃ W, W = (w2.alloc (.cells #[.int .u32 0, .slice none 0 0] 79)).setRow w2.heap.size #[.int .u32 (x : Int), .slice A2 m k2] := ⟨_, rfl⟩
    rw [← hW] at HS4 HT9 HZ4 HO4 ⊢
    clear hW HN3
    obtain ⟨Ap, hp, _⟩ := HS4.out.cut.at_
    rw [Nat.sub_self] at hp
    have HBAD := Lib.hid (bad51 W hp)
    have HLEFT : Hid (Calls Tryz.prog 42 #[.pointer (some ⟨p, 0, none⟩)] W fun e w' => e = .returned (.int .i64 0) ∧ W = w') := Lib.hid ((left48 W hp).mono (by
      rintro e w' ⟨rfl, rfl⟩
      exact ⟨by simp, rfl⟩))
    obtain ⟨t9, ht9⟩ : ∃ t9, t9 = w2.heap.size := ⟨_, rfl⟩
    rw [← ht9] at HT9 ⊢
    clear hp ht9
    go_wp2_with fail
    refine (HBAD.out).mono ?_
    rintro e w5 ⟨rfl, rfl⟩
    go_wp2_with fail
    refine (HLEFT.out).mono ?_
    rintro e w5 ⟨rfl, rfl⟩
    go_wp2_with (first | (refine wpList_load_row rfl 79 _ rfl t9 rfl 79 _ (0, 0) _ HT9.out Tryz.underlying79 rfl HSC.out ?_) | (refine wpList_store_row rfl 79 _ _ rfl w.heap.size #[.int .u32 (x : Int), .slice A2 m k2] rfl rfl 79 _ HZ4.out HSC.out ?hold HC1.out ?_))
    case hold => rfl
    have t := Turned.setRow HZ4.out #[.int .u32 (x : Int), .slice A2 m k2]
    have ho9 := HO4.out.kept t.grown (by
      cases hv : (Value.slice A2 m k2).ownBlock with
      | none => exact .inl rfl
      | some k => right; intro e; cases e; have := (HO4.out.lt _ hv).1; have := HLT.out; omega)
    refine bodyPost_ret (results_row_tmp Tryz.results40 _ _ w.heap.size 79 _ (0, 0) _ rfl (t.get (lt_of_blk HZ4.out)) Tryz.underlying79 rfl HSC.out) rfl ⟨?_, .inr ⟨rfl, A2, k2, ?_, ?_⟩⟩
    · exact HBV.out.trans ((HS4.out.below.mono (by rw [HVS.out]; omega)).trans (t.below (Nat.le_refl _)))
    · rw [HM.out, HX.out]; rfl
    · rw [HM.out]; exact own_mono ho9 (by have := HLT.out; omega)
  · have hn3 := heap_alloc_new w2 (.cells #[.int .u32 0, .slice none 0 0] 79)
    have hb3 : Below w2.heap.size w2 (w2.alloc (.cells #[.int .u32 0, .slice none 0 0] 79)) := (Below.refl _ _).alloc (Nat.le_refl _) _
    have t3 := Turned.setRow hn3 #[.int .u32 (x : Int), .slice A2 n2 k2]
    have hb4 := hb3.trans (t3.below (Nat.le_refl _))
    have HN3 := Lib.hid hn3
    have HSC := Lib.hid (sizeL127 x n2 k2 A2)
    have HC1 := Lib.hid (oneL127 x n2 k2 A2)
    have hb5 := hb2.trans (hb4.mono hb2.size)
    have HB5 := Lib.hid hb5
    have HZ9 := Lib.hid ((hb5.block w.heap.size (by rw [HVS.out]; omega)).trans HZ.out)
    clear hn3 hb3 t3 hb4 hb2 hb5
    go_upto_region 5 with (refine wpList_store_row rfl 79 _ _ rfl w2.heap.size #[.int .u32 (x : Int), .slice A2 n2 k2] rfl rfl 79 _ HN3.out HSC.out ?hold HC1.out ?_)
    case hold => rfl
    obtain ⟨W, hW⟩ : ∃ W, W = (w2.alloc (.cells #[.int .u32 0, .slice none 0 0] 79)).setRow w2.heap.size #[.int .u32 (x : Int), .slice A2 n2 k2] := ⟨_, rfl⟩
    rw [← hW] at HB5 HZ9 ⊢
    clear hW HN3
    go_wp2_with (first | (refine wpList_load_row rfl 79 _ rfl w.heap.size rfl 79 _ (0, 0) _ HZ9.out Tryz.underlying79 rfl HSZ.out ?_) | (refine wpList_store_row rfl 79 _ _ rfl w.heap.size #[.int .u32 0, .slice none 0 0] rfl rfl 79 _ HZ9.out HSZ.out rfl HZ1.out ?_))
    have t := Turned.setRow HZ9.out #[.int .u32 0, .slice none 0 0]
    refine bodyPost_ret (results_row_tmp Tryz.results40 _ _ w.heap.size 79 _ (0, 0) _ rfl (t.get (lt_of_blk HZ9.out)) Tryz.underlying79 rfl HSZ.out) rfl ⟨?_, .inl ⟨rfl, rfl⟩⟩
    exact HBV.out.trans ((HB5.out.mono (by rw [HVS.out]; omega)).trans (t.below (Nat.le_refl _)))
set_option maxRecDepth 100000 in
set_option maxHeartbeats 1000000 in
theorem clip94 (A : Option Addr) (n c : Nat) (hn : n ≤ c) (w : World) : Calls Tryz.prog 44 #[.slice A n c] w fun e w' => e = .returned (.slice A n n) ∧ w = w' := by
  go_enter Tryz.func44, Tryz.ntmps44
  go_wp2_with fail
  go_ret
  exact ⟨rfl, rfl⟩
/-- what is told of a list of addresses -/
def ListPost (w : World) (l : List Nat) (r : Bool) (e : Ending) (w' : World) : Prop :=
  Below w.heap.size w w' ∧ ((r = false ∧ e = .returned (.tuple #[.int .u32 0, .slice none 0 0, .bool false])) ∨
   (r = true ∧ ∃ A k, e = .returned (.tuple #[.int .u32 (num1 l 2 4 : Nat), .slice A (adN l) (adN l), .bool true]) ∧ adN l ≤ k ∧ w'.ownsRow w.heap.size 32 16 (.slice A (adN l) k) (adN l) (row8 (adrsB (adrsOf l (adN l))))))
set_option maxRecDepth 100000 in
set_option maxHeartbeats 4000000 in
theorem srv77 {kd : Nat} {A : Option Addr} {c : Nat} {l : List Nat} (w : World) (h : Bs w w.heap.size A c l) (hl : l.length ≤ 1000000000) (h256 : ∀ x ∈ l, x < 256) {r : Bool} (hr : isSrv kd l = r) :
    Calls Tryz.prog 12 #[.agg #[.int .u8 (kd : Int), .slice A l.length c]] w (ListPost w l r) := by
  have h2 := heap_alloc_new w (.cells #[.int .u8 (kd : Int), .slice A l.length c] 24)
  have hb2 : Below w.heap.size w (w.alloc (.cells #[.int .u8 (kd : Int), .slice A l.length c] 24)) := (Below.refl _ _).alloc (Nat.le_refl _) _
  obtain ⟨V, hV⟩ : ∃ V, V = w.alloc (.cells #[.int .u8 (kd : Int), .slice A l.length c] 24) := ⟨_, rfl⟩
  rw [← hV] at hb2 h2
  have HT := Lib.hid (told92 (A := A) (c := c) (l := l) V h2 ((h.below hb2).mono hb2.size) hl h256 hr)
  obtain ⟨n, hn⟩ : ∃ n, l.length = n := ⟨_, rfl⟩
  rw [hn] at HT h2 hV ⊢
  have c1 := cell_blk h2 1
  simp only [List.getElem?_toArray, List.getElem?_cons_zero, List.getElem?_cons_succ] at c1
  have HB := Lib.hid hb2
  clear h hn hb2 h2 hl h256 hr
  go_enter Tryz.func12, Tryz.ntmps12
  go_wp2_with fail
  rw [← hV]
  clear hV
  refine (HT.out).mono ?_
  rintro e w3 ⟨hb, hP⟩
  have hb3 := HB.out.trans (hb.mono HB.out.size)
  have HBS := Lib.hid hb.size
  clear HT hb c1
  rcases hP with ⟨rfl, rfl⟩ | ⟨rfl, A2, k, rfl, ho⟩
  · have hn3 := heap_alloc_new w3 (.cells #[.int .u32 0, .slice none 0 0] 79)
    have HB5 : Hid (Below w.heap.size w (w3.alloc (.cells #[.int .u32 0, .slice none 0 0] 79))) := Lib.hid (hb3.alloc hb3.size _)
    obtain ⟨t, ht⟩ : ∃ t, t = w3.heap.size := ⟨_, rfl⟩
    have HCK : Hid (0 ≤ 0) := Lib.hid (Nat.le_refl _)
    rw [← ht] at hn3
    have HN3 := Lib.hid hn3
    clear hb3 hn3
    go_upto_region 2 with (fail)
    obtain ⟨W, hW⟩ : ∃ W, W = w3.alloc (.cells #[.int .u32 0, .slice none 0 0] 79) := ⟨_, rfl⟩
    rw [← ht, ← hW]
    rw [← hW] at HN3 HB5
    clear ht hW
    have hS : W.drew.heap[t]? = some (.cells #[.int .u32 0, .slice none 0 0] 79 (0, 0)) := HN3.out
    refine wp_region_held_drew (S := fun W => W.heap[t]? = some (.cells #[.int .u32 0, .slice none 0 0] 79 (0, 0))) (by kernel_rfl) hS ?_
    clear hS
    intro HSS
    refine wpAnyH_take (i := 0) (v := ?_) rfl (by kernel_rfl) (by kernel_rfl) (by kernel_rfl) (fun _ _ _ h => h) (Or.inl ⟨by go_simp, ?hy⟩) HSS ?_
    case hy => intro W hW; go_simp; (try with_reducible rfl)
    try simp only [List.getElem_toArray, List.getElem_cons_zero, List.getElem_cons_succ, Act.put, List.setIfInBounds_toArray, List.set_cons_zero, List.set_cons_succ]
    refine wpAnyH_take (i := 1) (v := ?_) rfl (by kernel_rfl) (by kernel_rfl) (by kernel_rfl) (fun _ _ _ h => h) (Or.inl ⟨by go_simp, ?hy⟩) HSS ?_
    case hy => intro W hW; have c := cell_blk hW 0; simp only [List.getElem?_toArray, List.getElem?_cons_zero, List.getElem?_cons_succ] at c; go_simp; (try with_reducible rfl)
    try simp only [List.getElem_toArray, List.getElem_cons_zero, List.getElem_cons_succ, Act.put, List.setIfInBounds_toArray, List.set_cons_zero, List.set_cons_succ]
    refine wpAnyH_take (i := 2) (v := ?_) rfl (by kernel_rfl) (by kernel_rfl) (by kernel_rfl) (fun _ _ _ h => h) (Or.inl ⟨by go_simp, ?hy⟩) HSS ?_
    case hy => intro W hW; go_simp; (try with_reducible rfl)
    try simp only [List.getElem_toArray, List.getElem_cons_zero, List.getElem_cons_succ, Act.put, List.setIfInBounds_toArray, List.set_cons_zero, List.set_cons_succ]
    refine wpAnyH_take (i := 3) (v := ?_) rfl (by kernel_rfl) (by kernel_rfl) (by kernel_rfl) (fun _ _ _ h => h) (Or.inl ⟨by go_simp, ?hy⟩) HSS ?_
    case hy => intro W hW; have c := cell_blk hW 1; simp only [List.getElem?_toArray, List.getElem?_cons_zero, List.getElem?_cons_succ] at c; go_simp; (try with_reducible rfl)
    try simp only [List.getElem_toArray, List.getElem_cons_zero, List.getElem_cons_succ, Act.put, List.setIfInBounds_toArray, List.set_cons_zero, List.set_cons_succ]
    refine wpAnyH_take (i := 5) (v := ?_) rfl (by kernel_rfl) (by kernel_rfl) (by kernel_rfl) (fun _ _ _ h => h) (Or.inl ⟨by go_simp, ?hy⟩) HSS ?_
    case hy => intro W hW; go_simp; (try with_reducible rfl)
    try simp only [List.getElem_toArray, List.getElem_cons_zero, List.getElem_cons_succ, Act.put, List.setIfInBounds_toArray, List.set_cons_zero, List.set_cons_succ]
    refine wpAnyH_ready (rs := [4]) (by kernel_rfl) (by simp) ?_
    refine AllReadyH.cons rfl (fun K hK => ?_) AllReadyH.nil
    rw [if_pos (by kernel_rfl)]
    simp only [List.getElem_toArray, List.getElem_cons_zero, List.getElem_cons_succ]
    go_simp
    refine (clip94 none 0 0 HCK.out _).mono ?_
    rintro e w9 ⟨rfl, rfl⟩
    refine hK.out _ _ (HSS) (fun HSS => ?_)
    clear hK
    try simp only [List.getElem_toArray, List.getElem_cons_zero, List.getElem_cons_succ, Act.put, List.setIfInBounds_toArray, List.set_cons_zero, List.set_cons_succ]
    refine wpAnyH_take (i := 6) (v := ?_) rfl (by kernel_rfl) (by kernel_rfl) (by kernel_rfl) (fun _ _ _ h => h) (Or.inl ⟨by go_simp, ?hy⟩) HSS ?_
    case hy => intro W hW; go_simp; (try with_reducible rfl)
    try simp only [List.getElem_toArray, List.getElem_cons_zero, List.getElem_cons_succ, Act.put, List.setIfInBounds_toArray, List.set_cons_zero, List.set_cons_succ]
    refine wpAnyH_take (i := 7) (v := ?_) rfl (by kernel_rfl) (by kernel_rfl) (by kernel_rfl) (fun _ _ _ h => h) (Or.inl ⟨by go_simp, ?hy⟩) HSS ?_
    case hy => intro W hW; go_simp; (try with_reducible rfl)
    try simp only [List.getElem_toArray, List.getElem_cons_zero, List.getElem_cons_succ, Act.put, List.setIfInBounds_toArray, List.set_cons_zero, List.set_cons_succ]
    refine wpAnyH_take (i := 8) (v := ?_) rfl (by kernel_rfl) (by kernel_rfl) (by kernel_rfl) (fun _ _ _ h => h) (Or.inl ⟨by go_simp, ?hy⟩) HSS ?_
    case hy => intro W hW; go_simp; (try with_reducible rfl)
    try simp only [List.getElem_toArray, List.getElem_cons_zero, List.getElem_cons_succ, Act.put, List.setIfInBounds_toArray, List.set_cons_zero, List.set_cons_succ]
    refine wpAnyH_done (by kernel_rfl) ?_ _
    clear HSS
    go_wp2_with fail
    refine bodyPost_ret (v := .tuple #[.int .u32 0, .slice none 0 0, .bool false]) ?_ rfl ?_
    · simp [results, Tryz.results12, go_sem]
      try rfl
    · exact ⟨HB5.out.trans (Below.refl _ _).drew, .inl ⟨rfl, rfl⟩⟩
  · obtain ⟨m, hm⟩ : ∃ m, adN l = m := ⟨_, rfl⟩
    obtain ⟨x, hx⟩ : ∃ x, num1 l 2 4 = x := ⟨_, rfl⟩
    have HM := Lib.hid hm; have HX := Lib.hid hx
    rw [hm] at ho ⊢
    rw [hx]
    obtain ⟨A9, k9, e9, hk9⟩ := own_slice2 ho
    cases e9
    have HCK := Lib.hid hk9
    have hn3 := heap_alloc_new w3 (.cells #[.int .u32 (x : Int), .slice A2 m k] 79)
    have hal : Below w3.heap.size w3 (w3.alloc (.cells #[.int .u32 (x : Int), .slice A2 m k] 79)) := (Below.refl _ _).alloc (Nat.le_refl _) _
    have HO5 := Lib.hid (own_below ho hal)
    have HB5 : Hid (Below w.heap.size w (w3.alloc (.cells #[.int .u32 (x : Int), .slice A2 m k] 79))) := Lib.hid (hb3.alloc hb3.size _)
    obtain ⟨t, ht⟩ : ∃ t, t = w3.heap.size := ⟨_, rfl⟩
    rw [← ht] at hn3
    have HN3 := Lib.hid hn3
    clear hb3 hn3 hal ho hk9 hm hx
    go_upto_region 2 with (fail)
    obtain ⟨W, hW⟩ : ∃ W, W = w3.alloc (.cells #[.int .u32 (x : Int), .slice A2 m k] 79) := ⟨_, rfl⟩
    rw [← ht, ← hW]
    rw [← hW] at HN3 HB5 HO5
    clear ht hW
    have hS : W.drew.heap[t]? = some (.cells #[.int .u32 (x : Int), .slice A2 m k] 79 (0, 0)) := HN3.out
    refine wp_region_held_drew (S := fun W => W.heap[t]? = some (.cells #[.int .u32 (x : Int), .slice A2 m k] 79 (0, 0))) (by kernel_rfl) hS ?_
    clear hS
    intro HSS
    refine wpAnyH_take (i := 0) (v := ?_) rfl (by kernel_rfl) (by kernel_rfl) (by kernel_rfl) (fun _ _ _ h => h) (Or.inl ⟨by go_simp, ?hy⟩) HSS ?_
    case hy => intro W hW; go_simp; (try with_reducible rfl)
    try simp only [List.getElem_toArray, List.getElem_cons_zero, List.getElem_cons_succ, Act.put, List.setIfInBounds_toArray, List.set_cons_zero, List.set_cons_succ]
    refine wpAnyH_take (i := 1) (v := ?_) rfl (by kernel_rfl) (by kernel_rfl) (by kernel_rfl) (fun _ _ _ h => h) (Or.inl ⟨by go_simp, ?hy⟩) HSS ?_
    case hy => intro W hW; have c := cell_blk hW 0; simp only [List.getElem?_toArray, List.getElem?_cons_zero, List.getElem?_cons_succ] at c; go_simp; (try with_reducible rfl)
    try simp only [List.getElem_toArray, List.getElem_cons_zero, List.getElem_cons_succ, Act.put, List.setIfInBounds_toArray, List.set_cons_zero, List.set_cons_succ]
    refine wpAnyH_take (i := 2) (v := ?_) rfl (by kernel_rfl) (by kernel_rfl) (by kernel_rfl) (fun _ _ _ h => h) (Or.inl ⟨by go_simp, ?hy⟩) HSS ?_
    case hy => intro W hW; go_simp; (try with_reducible rfl)
    try simp only [List.getElem_toArray, List.getElem_cons_zero, List.getElem_cons_succ, Act.put, List.setIfInBounds_toArray, List.set_cons_zero, List.set_cons_succ]
    refine wpAnyH_take (i := 3) (v := ?_) rfl (by kernel_rfl) (by kernel_rfl) (by kernel_rfl) (fun _ _ _ h => h) (Or.inl ⟨by go_simp, ?hy⟩) HSS ?_
    case hy => intro W hW; have c := cell_blk hW 1; simp only [List.getElem?_toArray, List.getElem?_cons_zero, List.getElem?_cons_succ] at c; go_simp; (try with_reducible rfl)
    try simp only [List.getElem_toArray, List.getElem_cons_zero, List.getElem_cons_succ, Act.put, List.setIfInBounds_toArray, List.set_cons_zero, List.set_cons_succ]
    refine wpAnyH_take (i := 5) (v := ?_) rfl (by kernel_rfl) (by kernel_rfl) (by kernel_rfl) (fun _ _ _ h => h) (Or.inl ⟨by go_simp, ?hy⟩) HSS ?_
    case hy => intro W hW; go_simp; (try with_reducible rfl)
    try simp only [List.getElem_toArray, List.getElem_cons_zero, List.getElem_cons_succ, Act.put, List.setIfInBounds_toArray, List.set_cons_zero, List.set_cons_succ]
    refine wpAnyH_ready (rs := [4]) (by kernel_rfl) (by simp) ?_
    refine AllReadyH.cons rfl (fun K hK => ?_) AllReadyH.nil
    rw [if_pos (by kernel_rfl)]
    simp only [List.getElem_toArray, List.getElem_cons_zero, List.getElem_cons_succ]
    go_simp
    refine (clip94 A2 m k HCK.out _).mono ?_
    rintro e w9 ⟨rfl, rfl⟩
    refine hK.out _ _ (HSS) (fun HSS => ?_)
    clear hK
    try simp only [List.getElem_toArray, List.getElem_cons_zero, List.getElem_cons_succ, Act.put, List.setIfInBounds_toArray, List.set_cons_zero, List.set_cons_succ]
    refine wpAnyH_take (i := 6) (v := ?_) rfl (by kernel_rfl) (by kernel_rfl) (by kernel_rfl) (fun _ _ _ h => h) (Or.inl ⟨by go_simp, ?hy⟩) HSS ?_
    case hy => intro W hW; go_simp; (try with_reducible rfl)
    try simp only [List.getElem_toArray, List.getElem_cons_zero, List.getElem_cons_succ, Act.put, List.setIfInBounds_toArray, List.set_cons_zero, List.set_cons_succ]
    refine wpAnyH_take (i := 7) (v := ?_) rfl (by kernel_rfl) (by kernel_rfl) (by kernel_rfl) (fun _ _ _ h => h) (Or.inl ⟨by go_simp, ?hy⟩) HSS ?_
    case hy => intro W hW; go_simp; (try with_reducible rfl)
    try simp only [List.getElem_toArray, List.getElem_cons_zero, List.getElem_cons_succ, Act.put, List.setIfInBounds_toArray, List.set_cons_zero, List.set_cons_succ]
    refine wpAnyH_take (i := 8) (v := ?_) rfl (by kernel_rfl) (by kernel_rfl) (by kernel_rfl) (fun _ _ _ h => h) (Or.inl ⟨by go_simp, ?hy⟩) HSS ?_
    case hy => intro W hW; go_simp; (try with_reducible rfl)
    try simp only [List.getElem_toArray, List.getElem_cons_zero, List.getElem_cons_succ, Act.put, List.setIfInBounds_toArray, List.set_cons_zero, List.set_cons_succ]
    refine wpAnyH_done (by kernel_rfl) ?_ _
    clear HSS
    go_wp2_with fail
    refine bodyPost_ret (v := .tuple #[.int .u32 (x : Int), .slice A2 m m, .bool true]) (by (simp [results, Tryz.results12, go_sem]); try rfl) rfl ?_
    refine ⟨HB5.out.trans (Below.refl _ _).drew, .inr ⟨rfl, A2, k, ?_, ?_, ?_⟩⟩
    · rw [HM.out, HX.out]
    · rw [HM.out]; exact HCK.out
    · rw [HM.out]
      have := own_below HO5.out (Below.refl W.heap.size W).drew
      exact own_mono this HB.out.size
end Go.Proofs.YtfolamkjlgpgmaaGreatDoor
