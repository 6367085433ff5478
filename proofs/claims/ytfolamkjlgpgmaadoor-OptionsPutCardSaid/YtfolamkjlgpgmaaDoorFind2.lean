/- The first option of a kind, copied: the walk. No condition but that the options read. -/
import Derived.Test.YtfolamkjlgpgmaaDoorFind
namespace Go.Proofs.YtfolamkjlgpgmaaDoor
open Go.RowKit
set_option linter.unusedVariables false
set_option linter.unusedSimpArgs false
/-- what the first of a kind is, copied -/
def FoundAt (L : List Opt) (kd : Nat) (w : World) (e : Ending) (w' : World) : Option Nat → Prop
  | none => e = .returned (.tuple #[.agg #[.int .u8 0, .slice none 0 0], .bool false])
  | some k => ∃ x A' cap, L[k]? = some x ∧ e = .returned (.tuple #[.agg #[.int .u8 (kd : Int), .slice A' x.data.length x.data.length], .bool true]) ∧ w'.ownsRow w.heap.size 5 1 (.slice A' x.data.length cap) x.data.length (row8 x.data)
theorem own_blk2 {w : World} {B e s n kb T : Nat} {v : Value} {xs : List Value} {cs : Array Value} {z : Nat × Nat} (h : w.ownsRow B e s v n xs) (k : w.heap[kb]? = some (.cells cs T z)) (hne : e ≠ T) : v.ownBlock = none ∨ v.ownBlock ≠ some kb := by
  rcases h.2 with ⟨rfl, _⟩ | ⟨g, cap, cur, rfl, hb, hg, _⟩
  · exact .inl rfl
  · right
    intro x
    simp only [Value.ownBlock, Option.some.injEq] at x
    subst x
    rw [hg] at k
    cases k
    exact hne rfl
/-- the box of the kind, and the result's block -/
structure FS (w : World) (kd : Nat) (W : World) : Prop where
  box : W.heap[w.heap.size]? = some (.cells #[.int .u8 (kd : Int)] 5 (0, 0))
  res : ∃ u0 u1, W.heap[w.heap.size + 1]? = some (.cells #[u0, u1] 41 (0, 0))
  below : Below w.heap.size w W
theorem FS.step {w W W' : World} {kd : Nat} (h : FS w kd W) (hb : Below W.heap.size W W') : FS w kd W' := by
  obtain ⟨u0, u1, h2⟩ := h.res
  exact ⟨(hb.block _ (lt_of_blk h.box)).trans h.box, ⟨u0, u1, (hb.block _ (lt_of_blk h2)).trans h2⟩, h.below.trans (hb.mono h.below.size)⟩
theorem FS.turn {w W W' : World} {kd : Nat} {v0 v1 : Value} (h : FS w kd W) (t : Turned (w.heap.size + 1) (.cells #[v0, v1] 41 (0, 0)) W W') : FS w kd W' := by
  obtain ⟨u0, u1, h2⟩ := h.res
  exact ⟨t.keep h.box (by omega), ⟨v0, v1, t.get (lt_of_blk h2)⟩, h.below.trans (t.below (by omega))⟩
theorem two_set {w : World} {p : Nat} {u0 u1 v0 v1 : Value} {t : TypeId} (h : w.heap[p]? = some (.cells #[u0, u1] t (0, 0))) : Turned p (.cells #[v0, v1] t (0, 0)) w ((w.setCell ⟨p, 0, none⟩ v0).setCell ⟨p, 1, none⟩ v1) := by
  have t0 := Turned.setCell h 0 v0
  exact t0.trans (Turned.setCell (t0.get (lt_of_blk h)) 1 v1)
def FindPost (L : List Opt) (kd : Nat) (w : World) (e : Ending) (w' : World) : Prop := Below w.heap.size w w' ∧ ∃ r, FirstK L kd r ∧ FoundAt L kd w e w' r
set_option maxRecDepth 100000 in
set_option maxHeartbeats 1000000 in
theorem find21 {A : Option Addr} {c kd B : Nat} {L : List Opt} (w : World) (h : OptsRd w B A L) (hB : B ≤ w.heap.size) (hd : ∀ x ∈ L, x.data.length ≤ 1000000000) :
    Calls Tryd.prog 21 #[.slice A L.length c, .int .u8 (kd : Int)] w (FindPost L kd w) := by
  have hal : Below w.heap.size w ((w.alloc (.cells #[.int .u8 (kd : Int)] 5)).alloc (.cells #[.int .u8 0, .slice none 0 0] 41)) := ((Below.refl _ _).alloc (Nat.le_refl _) _).alloc (by simp) _
  have hk1 : ((w.alloc (.cells #[.int .u8 (kd : Int)] 5)).alloc (.cells #[.int .u8 0, .slice none 0 0] 41)).heap[w.heap.size]? = some (.cells #[.int .u8 (kd : Int)] 5 (0, 0)) := by
    rw [heap_alloc_old _ _ (by simp)]; exact heap_alloc_new _ _
  have hk2 : ((w.alloc (.cells #[.int .u8 (kd : Int)] 5)).alloc (.cells #[.int .u8 0, .slice none 0 0] 41)).heap[w.heap.size + 1]? = some (.cells #[.int .u8 0, .slice none 0 0] 41 (0, 0)) := by
    have := heap_alloc_new (w.alloc (.cells #[.int .u8 (kd : Int)] 5)) (.cells #[.int .u8 0, .slice none 0 0] 41); simpa using this
  have HI := Lib.hid (idx58 (kd := kd) (c := c) (p := w.heap.size) _ (h.below (hal.mono hB)) (by have := hal.size; omega) (by rw [cell_blk hk1]; rfl))
  obtain ⟨n, hn⟩ : ∃ n, L.length = n := ⟨_, rfl⟩
  have HN := Lib.hid hn
  have HO := Lib.hid h
  have HD := Lib.hid hd
  have HAL := Lib.hid hal
  have HK1 := Lib.hid hk1
  have HK2 := Lib.hid hk2
  rw [hn] at HI ⊢
  clear h hn hd hal hk1 hk2
  go_enter Tryd.func21, Tryd.ntmps21
  go_wp2_with fail
  refine (HI.out).mono ?_
  rintro e w1 ⟨r, hr, rfl, hb1⟩
  have hb01 := HAL.out.trans (hb1.mono (by simp; omega))
  have hq : w1.heap[w.heap.size + 1]? = some (.cells #[.int .u8 0, .slice none 0 0] 41 (0, 0)) := (hb1.block _ (lt_of_blk HK2.out)).trans HK2.out
  have hq0 : w1.heap[w.heap.size]? = some (.cells #[.int .u8 (kd : Int)] 5 (0, 0)) := (hb1.block _ (lt_of_blk HK1.out)).trans HK1.out
  have d0 := cell_blk hq 0
  have d1 := cell_blk hq 1
  have f0 := frozen_blk hq 0
  have f1 := frozen_blk hq 1
  have e0 := cell_blk hq0 0
  simp only [List.getElem?_toArray, List.getElem?_cons_zero, List.getElem?_cons_succ] at d0 d1 e0
  have HQ := Lib.hid hq
  have HQ0 := Lib.hid hq0
  have HB01 := Lib.hid hb01
  clear HI hb1 hb01 hq hq0
  cases r with
  | none =>
    have tn : numK none = -1 := rfl
    have HR := Lib.hid hr
    clear hr
    rw [tn]
    go_wp2_with fail
    have t := two_set (v0 := .int .u8 0) (v1 := .slice none 0 0) HQ.out
    have g0 := cell_blk (t.get (lt_of_blk HQ.out)) 0
    have g1 := cell_blk (t.get (lt_of_blk HQ.out)) 1
    simp only [List.getElem?_toArray, List.getElem?_cons_zero, List.getElem?_cons_succ] at g0 g1
    refine bodyPost_ret (v := .tuple #[.agg #[.int .u8 0, .slice none 0 0], .bool false]) ?_ rfl ?_
    · simp [results, Tryd.results21, go_sem, g0, g1]
      try rfl
    · exact ⟨HB01.out.trans (t.below (by omega)), none, HR.out, rfl⟩
  | some k =>
    have tn : numK (some k) = (k : Int) := rfl
    obtain ⟨x, hx, hxk, hx2⟩ := hr
    have HR : Hid (FirstK L kd (some k)) := Lib.hid ⟨x, hx, hxk, hx2⟩
    have hO := HO.out
    obtain ⟨b, o, rfl, hb, hc⟩ := hO.at_ (by rintro rfl; simp at hx)
    obtain ⟨-, x1⟩ := hc k x hx
    have hkn : k < n := by rw [← HN.out]; exact (List.getElem?_eq_some_iff.1 hx).1
    have hsz1 := HB01.out.size
    have bx := hO.each x (List.mem_of_getElem? hx)
    have hdx := HD.out x (List.mem_of_getElem? hx)
    have HC : Hid (∀ W : World, FS w kd W → Calls Tryd.prog 60 #[.slice x.adr x.data.length x.cap] W fun e w' => ∃ v', e = .returned v' ∧ w'.ownsRow W.heap.size 5 1 v' x.data.length (row8 x.data) ∧ Below W.heap.size W w' ∧ (v' = .slice none 0 0 ↔ x.adr = none)) :=
      Lib.hid fun W hW => clone60 W (bx.below (hW.below.mono hB)) hdx
    have ck : ∀ (W : World), FS w kd W → W.cell? ⟨w.heap.size, 0, none⟩ = some (.int .u8 (kd : Int)) := fun W hW => by rw [cell_blk hW.box]; rfl
    have dk := fun (W : World) (hW : FS w kd W) => (hW.below.cell (p := ⟨b, o + k * 2 + 1, none⟩) (lt_of_cell x1)).trans x1
    have HX := Lib.hid hx
    have tk : ¬ ((k : Int) < 0) := by omega
    have hm : k * 2 + 1 < 2 * n := by omega
    rw [tn]
    clear hx hxk hx2 hO hc x1 bx hdx d0 d1 f0 f1 e0
    go_wp2_with fail
    have hS : FS w kd w1.drew := ⟨HQ0.out, ⟨_, _, HQ.out⟩, HB01.out.drew⟩
    refine wp_region_held_drew (S := fun W => FS w kd W) (by kernel_rfl) hS ?_
    clear hS
    intro HS
    refine wpAnyH_take (i := 0) (v := ?_) rfl (by kernel_rfl) (by kernel_rfl) (by kernel_rfl) (fun _ _ _ h => h) (Or.inl ⟨by go_simp, ?hy⟩) HS ?_
    case hy => intro W hW; have c := ck W hW; go_simp; (try with_reducible rfl)
    try simp only [List.getElem_toArray, List.getElem_cons_zero, List.getElem_cons_succ, Act.put, List.setIfInBounds_toArray, List.set_cons_zero, List.set_cons_succ]
    refine wpAnyH_take (i := 1) (v := ?_) rfl (by kernel_rfl) (by kernel_rfl) (by kernel_rfl) (fun _ _ _ h => h) (Or.inl ⟨by go_simp, ?hy⟩) HS ?_
    case hy => intro W hW; go_simp; (try with_reducible rfl)
    try simp only [List.getElem_toArray, List.getElem_cons_zero, List.getElem_cons_succ, Act.put, List.setIfInBounds_toArray, List.set_cons_zero, List.set_cons_succ]
    refine wpAnyH_take (i := 2) (v := ?_) rfl (by kernel_rfl) (by kernel_rfl) (by kernel_rfl) (fun _ _ _ h => h) (Or.inl ⟨by go_simp, ?hy⟩) HS ?_
    case hy => intro W hW; go_simp; (try with_reducible rfl)
    try simp only [List.getElem_toArray, List.getElem_cons_zero, List.getElem_cons_succ, Act.put, List.setIfInBounds_toArray, List.set_cons_zero, List.set_cons_succ]
    refine wpAnyH_take (i := 3) (v := .pointer (some ⟨b, o + k * 2, none⟩)) rfl (by kernel_rfl) (by kernel_rfl) (by kernel_rfl) (fun _ _ _ h => h) (Or.inl ⟨by go_simp, fun W hW => by go_simp; (try omega)⟩) HS ?_
    try simp only [List.getElem_toArray, List.getElem_cons_zero, List.getElem_cons_succ, Act.put, List.setIfInBounds_toArray, List.set_cons_zero, List.set_cons_succ]
    refine wpAnyH_take (i := 4) (v := .pointer (some ⟨b, o + k * 2 + 1, none⟩)) rfl (by kernel_rfl) (by kernel_rfl) (by kernel_rfl) (fun _ _ _ h => h) (Or.inl ⟨by go_simp, fun W hW => by go_simp⟩) HS ?_
    try simp only [List.getElem_toArray, List.getElem_cons_zero, List.getElem_cons_succ, Act.put, List.setIfInBounds_toArray, List.set_cons_zero, List.set_cons_succ]
    refine wpAnyH_take (i := 5) (v := ?_) rfl (by kernel_rfl) (by kernel_rfl) (by kernel_rfl) (fun _ _ _ h => h) (Or.inl ⟨by go_simp, ?hy⟩) HS ?_
    case hy => intro W hW; have c := dk W hW; go_simp; (try with_reducible rfl)
    try simp only [List.getElem_toArray, List.getElem_cons_zero, List.getElem_cons_succ, Act.put, List.setIfInBounds_toArray, List.set_cons_zero, List.set_cons_succ]
    refine wpAnyH_ready (rs := [6]) (by kernel_rfl) (by simp) ?_
    refine AllReadyH.cons rfl (fun K hK => ?_) AllReadyH.nil
    rw [if_pos (by kernel_rfl)]
    simp only [List.getElem_toArray, List.getElem_cons_zero, List.getElem_cons_succ]
    go_simp
    refine (HC.out _ HS).mono ?_
    rintro e w5 ⟨v5, rfl, ho5, hb5, -⟩
    have ho5 := own_mono ho5 HS.below.size
    obtain ⟨A5, c5, rfl, hc5⟩ := own_slice2 ho5
    have HO5 := Lib.hid ho5
    clear ho5
    refine hK.out _ _ (HS.step hb5) (fun HS => ?_)
    clear hK
    try simp only [List.getElem_toArray, List.getElem_cons_zero, List.getElem_cons_succ, Act.put, List.setIfInBounds_toArray, List.set_cons_zero, List.set_cons_succ]
    refine wpAnyH_ready (rs := [7]) (by kernel_rfl) (by simp) ?_
    refine AllReadyH.cons rfl (fun K hK => ?_) AllReadyH.nil
    rw [if_pos (by kernel_rfl)]
    simp only [List.getElem_toArray, List.getElem_cons_zero, List.getElem_cons_succ]
    go_simp
    refine (clip56 _ _ _ hc5 _).mono ?_
    rintro e w6 ⟨rfl, rfl⟩
    refine hK.out _ _ (HS) (fun HS => ?_)
    clear hK
    try simp only [List.getElem_toArray, List.getElem_cons_zero, List.getElem_cons_succ, Act.put, List.setIfInBounds_toArray, List.set_cons_zero, List.set_cons_succ]
    refine wpAnyH_take (i := 8) (v := ?_) rfl (by kernel_rfl) (by kernel_rfl) (by kernel_rfl) (fun _ _ _ h => h) (Or.inl ⟨by go_simp, ?hy⟩) HS ?_
    case hy => intro W hW; go_simp; (try with_reducible rfl)
    try simp only [List.getElem_toArray, List.getElem_cons_zero, List.getElem_cons_succ, Act.put, List.setIfInBounds_toArray, List.set_cons_zero, List.set_cons_succ]
    obtain ⟨y0, y1, hq5⟩ := HS.res
    have d0' := cell_blk hq5 0
    have d1' := cell_blk hq5 1
    have f0' := frozen_blk hq5 0
    have f1' := frozen_blk hq5 1
    have t := two_set (v0 := .int .u8 (kd : Int)) (v1 := .slice A5 x.data.length x.data.length) hq5
    have HS9 := HS.turn t
    have g0 := cell_blk (t.get (lt_of_blk hq5)) 0
    have g1 := cell_blk (t.get (lt_of_blk hq5)) 1
    have HT := Lib.hid (HO5.out.kept t.grown (own_blk2 HO5.out hq5 (by decide)))
    simp only [List.getElem?_toArray, List.getElem?_cons_zero, List.getElem?_cons_succ] at d0' d1' g0 g1
    refine wpAnyH_ready (rs := [9]) (by kernel_rfl) (by simp) ?_
    refine AllReadyH.cons rfl (fun K hK => ?_) AllReadyH.nil
    rw [if_pos (by kernel_rfl)]
    simp only [List.getElem_toArray, List.getElem_cons_zero, List.getElem_cons_succ]
    go_simp
    refine hK.out _ _ (HS9) (fun HS => ?_)
    clear hK
    try simp only [List.getElem_toArray, List.getElem_cons_zero, List.getElem_cons_succ, Act.put, List.setIfInBounds_toArray, List.set_cons_zero, List.set_cons_succ]
    refine wpAnyH_take (i := 10) (v := ?_) rfl (by kernel_rfl) (by kernel_rfl) (by kernel_rfl) (fun _ _ _ h => h) (Or.inl ⟨by go_simp, ?hy⟩) HS ?_
    case hy => intro W hW; go_simp; (try with_reducible rfl)
    try simp only [List.getElem_toArray, List.getElem_cons_zero, List.getElem_cons_succ, Act.put, List.setIfInBounds_toArray, List.set_cons_zero, List.set_cons_succ]
    refine wpAnyH_done (by kernel_rfl) ?_ _
    go_wp2_with fail
    refine bodyPost_ret (v := .tuple #[.agg #[.int .u8 (kd : Int), .slice A5 x.data.length x.data.length], .bool true]) ?_ rfl ?_
    · simp [results, Tryd.results21, go_sem, g0, g1]
      try rfl
    · exact ⟨HS.below, some k, HR.out, x, A5, c5, HX.out, rfl, HT.out⟩
end Go.Proofs.YtfolamkjlgpgmaaDoor
