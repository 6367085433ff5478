/- Several texts in one: Find, Find2, FindR. No condition beyond those that each part names. -/
import Derived.Test.YtfolamkjlgpgmaaDoorSameO
import Derived.Handy
/- The first option of a kind: the walks. No condition but that the options read. -/
namespace Go.Proofs.YtfolamkjlgpgmaaDoor
open Go.RowKit
set_option linter.unusedVariables false
set_option linter.unusedSimpArgs false
/-- the first of a kind, or none is -/
def FirstK (L : List Opt) (kd : Nat) (r : Option Nat) : Prop := match r with
  | none => ∀ x ∈ L, x.kind ≠ kd
  | some k => ∃ x, L[k]? = some x ∧ x.kind = kd ∧ ∀ j y, j < k → L[j]? = some y → y.kind ≠ kd
def numK (r : Option Nat) : Int := match r with
  | none => -1
  | some k => (k : Int)
def BoolPost (b : Bool) (w : World) (e : Ending) (w' : World) : Prop := e = .returned (.bool b) ∧ Below w.heap.size w w'
set_option maxRecDepth 100000 in
set_option maxHeartbeats 1000000 in
theorem clos59 {A : Option Addr} {a kd p n c : Nat} (w : World) (h : w.cell? ⟨p, 0, none⟩ = some (.int .u8 (kd : Int))) :
    Calls Tryd.prog 59 #[.agg #[.int .u8 (a : Int), .slice A n c], .pointer (some ⟨p, 0, none⟩)] w (BoolPost ((a : Int) == kd) w) := by
  have hal : Below w.heap.size w (w.alloc (.cells #[.int .u8 (a : Int), .slice A n c] 41)) := (Below.refl _ _).alloc (Nat.le_refl _) _
  have hp := lt_of_cell h
  have c0 := (hal.cell (p := ⟨p, 0, none⟩) hp).trans h
  go_enter Tryd.func59, Tryd.ntmps59
  go_wp2_with fail
  go_ret
  exact ⟨rfl, hal⟩
def IdxPost (L : List Opt) (kd : Nat) (w : World) (e : Ending) (w' : World) : Prop := ∃ r, FirstK L kd r ∧ e = .returned (.int .i64 (numK r)) ∧ Below w.heap.size w w'
set_option maxRecDepth 100000 in
set_option maxHeartbeats 1000000 in
theorem idx58 {A : Option Addr} {c kd p B : Nat} {L : List Opt} (w : World) (h : OptsRd w B A L) (hB : B ≤ w.heap.size) (hp : w.cell? ⟨p, 0, none⟩ = some (.int .u8 (kd : Int))) :
    Calls Tryd.prog 58 #[.slice A L.length c, .func (.func 59) #[] #[.pointer (some ⟨p, 0, none⟩)]] w (IdxPost L kd w) := by
  obtain ⟨n, hn⟩ : ∃ n, L.length = n := ⟨_, rfl⟩
  have HN := Lib.hid hn
  have hm := h.many
  have HO := Lib.hid h
  have hpl := lt_of_cell hp
  have HP := Lib.hid hp
  rw [hn] at hm ⊢
  clear h hn hp
  go_enter Tryd.func58, Tryd.ntmps58
  go_wp2_with fail
  go_loopw [8] (fun i wr => ∃ k : Nat, k ≤ n ∧ i = .int .i64 k ∧ (∀ j y, j < k → L[j]? = some y → y.kind ≠ kd) ∧ Below w.heap.size w wr) (fun i _ => n - (intOf i).toNat)
  case atStart => exact ⟨0, Nat.zero_le _, rfl, fun j y hj => absurd hj (by omega), Below.refl _ _⟩
  case round =>
    obtain ⟨k, hk, rfl, hno, hW⟩ := hrel
    have HNO := Lib.hid hno
    clear hno
    by_cases hlt : k < n
    · obtain ⟨x, hx⟩ : ∃ x, L[k]? = some x := ⟨L[k]'(by rw [HN.out]; exact hlt), List.getElem?_eq_getElem _⟩
      have hO := HO.out.below (hW.mono hB)
      obtain ⟨b, o, rfl, hb, hc⟩ := hO.at_ (by rintro rfl; simp at hx)
      obtain ⟨c0, c1⟩ := hc k x hx
      have HC := Lib.hid (clos59 (A := x.adr) (a := x.kind) (n := x.data.length) (c := x.cap) wr ((hW.cell (p := ⟨p, 0, none⟩) hpl).trans HP.out))
      have HX := Lib.hid hx
      have HW := Lib.hid hW
      have hsz := hW.size
      clear hx hO hc hW
      by_cases hkd : x.kind = kd
      · rw [show ((x.kind : Int) == kd) = true by rw [beq_iff_eq]; omega] at HC
        have HKD := Lib.hid hkd
        clear hkd
        go_wp2_with fail
        refine (HC.out).mono ?_
        rintro e w1 ⟨rfl, hb1⟩
        have HB1 := Lib.hid (HW.out.trans (hb1.mono hsz))
        clear hb1 HC
        go_wp2_with fail
        go_ret
        exact ⟨some k, ⟨x, HX.out, HKD.out, HNO.out⟩, rfl, HB1.out⟩
      · rw [show ((x.kind : Int) == kd) = false by rw [beq_eq_false_iff_ne]; omega] at HC
        have HNX : Hid (∀ j y, j < k + 1 → L[j]? = some y → y.kind ≠ kd) := Lib.hid (by
          intro j y hj hy
          rcases Nat.lt_or_ge j k with h1 | h1
          · exact HNO.out j y h1 hy
          · obtain rfl : j = k := by omega
            have := HX.out
            rw [hy] at this
            cases this
            exact hkd)
        clear hkd
        go_wp2_with fail
        refine (HC.out).mono ?_
        rintro e w1 ⟨rfl, hb1⟩
        have HB1 := Lib.hid (HW.out.trans (hb1.mono hsz))
        clear hb1 HC
        go_wp2_with fail
        go_roundw
        case rel => exact ⟨k + 1, by omega, by go_num, HNX.out, HB1.out⟩
        case measure => simp [intOf]; omega
    · obtain rfl : k = n := by omega
      have HW := Lib.hid hW
      clear hW
      go_wp2_with fail
      go_ret
      refine ⟨none, fun x hx => ?_, rfl, HW.out⟩
      obtain ⟨j, hj, rfl⟩ := List.getElem_of_mem hx
      exact HNO.out j _ (by rw [← HN.out]; exact hj) (List.getElem?_eq_getElem hj)
end Go.Proofs.YtfolamkjlgpgmaaDoor

/- The first option of a kind, copied: the walk. No condition but that the options read. -/
namespace Go.Proofs.YtfolamkjlgpgmaaDoor
open Go.RowKit
set_option linter.unusedVariables false
set_option linter.unusedSimpArgs false
/-- what the first of a kind is, copied -/
def FoundAt (L : List Opt) (kd : Nat) (w : World) (e : Ending) (w' : World) : Option Nat → Prop
  | none => e = .returned (.tuple #[.agg #[.int .u8 0, .slice none 0 0], .bool false])
  | some k => ∃ x A' cap, L[k]? = some x ∧ e = .returned (.tuple #[.agg #[.int .u8 (kd : Int), .slice A' x.data.length x.data.length], .bool true]) ∧ w'.ownsRow w.heap.size 5 1 (.slice A' x.data.length cap) x.data.length (row8 x.data)
theorem own_blk2 {w : World} {B e s n kb T : Nat} {v : Value} {xs : List Value} {cs : Array Value} {z : Nat × Nat} (h : w.ownsRow B e s v n xs) (k : w.heap[kb]? = some (.cells cs T z)) (hne : e ≠ T) : v.ownBlock = none ∨ v.ownBlock ≠ some kb := by
  rcases h.2 with ⟨rfl, _⟩ | ⟨g, cap, cur, rfl, hb, hg, _⟩
  · exact .inl rfl
  · right
    intro x
    simp only [Value.ownBlock, Option.some.injEq] at x
    subst x
    rw [hg] at k
    cases k
    exact hne rfl
/-- the box of the kind, and the result's block -/
structure FS (w : World) (kd : Nat) (W : World) : Prop where
  box : W.heap[w.heap.size]? = some (.cells #[.int .u8 (kd : Int)] 5 (0, 0))
  res : ∃ u0 u1, W.heap[w.heap.size + 1]? = some (.cells #[u0, u1] 41 (0, 0))
  below : Below w.heap.size w W
theorem FS.step {w W W' : World} {kd : Nat} (h : FS w kd W) (hb : Below W.heap.size W W') : FS w kd W' := by
  obtain ⟨u0, u1, h2⟩ := h.res
  exact ⟨(hb.block _ (lt_of_blk h.box)).trans h.box, ⟨u0, u1, (hb.block _ (lt_of_blk h2)).trans h2⟩, h.below.trans (hb.mono h.below.size)⟩
theorem FS.turn {w W W' : World} {kd : Nat} {v0 v1 : Value} (h : FS w kd W) (t : Turned (w.heap.size + 1) (.cells #[v0, v1] 41 (0, 0)) W W') : FS w kd W' := by
  obtain ⟨u0, u1, h2⟩ := h.res
  exact ⟨t.keep h.box (by omega), ⟨v0, v1, t.get (lt_of_blk h2)⟩, h.below.trans (t.below (by omega))⟩
theorem two_set {w : World} {p : Nat} {u0 u1 v0 v1 : Value} {t : TypeId} (h : w.heap[p]? = some (.cells #[u0, u1] t (0, 0))) : Turned p (.cells #[v0, v1] t (0, 0)) w ((w.setCell ⟨p, 0, none⟩ v0).setCell ⟨p, 1, none⟩ v1) := by
  have t0 := Turned.setCell h 0 v0
  exact t0.trans (Turned.setCell (t0.get (lt_of_blk h)) 1 v1)
def FindPost (L : List Opt) (kd : Nat) (w : World) (e : Ending) (w' : World) : Prop := Below w.heap.size w w' ∧ ∃ r, FirstK L kd r ∧ FoundAt L kd w e w' r
set_option maxRecDepth 100000 in
set_option maxHeartbeats 1000000 in
theorem find21 {A : Option Addr} {c kd B : Nat} {L : List Opt} (w : World) (h : OptsRd w B A L) (hB : B ≤ w.heap.size) (hd : ∀ x ∈ L, x.data.length ≤ 1000000000) :
    Calls Tryd.prog 21 #[.slice A L.length c, .int .u8 (kd : Int)] w (FindPost L kd w) := by
  have hal : Below w.heap.size w ((w.alloc (.cells #[.int .u8 (kd : Int)] 5)).alloc (.cells #[.int .u8 0, .slice none 0 0] 41)) := ((Below.refl _ _).alloc (Nat.le_refl _) _).alloc (by simp) _
  have hk1 : ((w.alloc (.cells #[.int .u8 (kd : Int)] 5)).alloc (.cells #[.int .u8 0, .slice none 0 0] 41)).heap[w.heap.size]? = some (.cells #[.int .u8 (kd : Int)] 5 (0, 0)) := by
    rw [heap_alloc_old _ _ (by simp)]; exact heap_alloc_new _ _
  have hk2 : ((w.alloc (.cells #[.int .u8 (kd : Int)] 5)).alloc (.cells #[.int .u8 0, .slice none 0 0] 41)).heap[w.heap.size + 1]? = some (.cells #[.int .u8 0, .slice none 0 0] 41 (0, 0)) := by
    have := heap_alloc_new (w.alloc (.cells #[.int .u8 (kd : Int)] 5)) (.cells #[.int .u8 0, .slice none 0 0] 41); simpa using this
  have HI := Lib.hid (idx58 (kd := kd) (c := c) (p := w.heap.size) _ (h.below (hal.mono hB)) (by have := hal.size; omega) (by rw [cell_blk hk1]; rfl))
  obtain ⟨n, hn⟩ : ∃ n, L.length = n := ⟨_, rfl⟩
  have HN := Lib.hid hn
  have HO := Lib.hid h
  have HD := Lib.hid hd
  have HAL := Lib.hid hal
  have HK1 := Lib.hid hk1
  have HK2 := Lib.hid hk2
  rw [hn] at HI ⊢
  clear h hn hd hal hk1 hk2
  go_enter Tryd.func21, Tryd.ntmps21
  go_wp2_with fail
  refine (HI.out).mono ?_
  rintro e w1 ⟨r, hr, rfl, hb1⟩
  have hb01 := HAL.out.trans (hb1.mono (by simp; omega))
  have hq : w1.heap[w.heap.size + 1]? = some (.cells #[.int .u8 0, .slice none 0 0] 41 (0, 0)) := (hb1.block _ (lt_of_blk HK2.out)).trans HK2.out
  have hq0 : w1.heap[w.heap.size]? = some (.cells #[.int .u8 (kd : Int)] 5 (0, 0)) := (hb1.block _ (lt_of_blk HK1.out)).trans HK1.out
  have d0 := cell_blk hq 0
  have d1 := cell_blk hq 1
  have f0 := frozen_blk hq 0
  have f1 := frozen_blk hq 1
  have e0 := cell_blk hq0 0
  simp only [List.getElem?_toArray, List.getElem?_cons_zero, List.getElem?_cons_succ] at d0 d1 e0
  have HQ := Lib.hid hq
  have HQ0 := Lib.hid hq0
  have HB01 := Lib.hid hb01
  clear HI hb1 hb01 hq hq0
  cases r with
  | none =>
    have tn : numK none = -1 := rfl
    have HR := Lib.hid hr
    clear hr
    rw [tn]
    go_wp2_with fail
    have t := two_set (v0 := .int .u8 0) (v1 := .slice none 0 0) HQ.out
    have g0 := cell_blk (t.get (lt_of_blk HQ.out)) 0
    have g1 := cell_blk (t.get (lt_of_blk HQ.out)) 1
    simp only [List.getElem?_toArray, List.getElem?_cons_zero, List.getElem?_cons_succ] at g0 g1
    refine bodyPost_ret (v := .tuple #[.agg #[.int .u8 0, .slice none 0 0], .bool false]) ?_ rfl ?_
    · simp [results, Tryd.results21, go_sem, g0, g1]
      try rfl
    · exact ⟨HB01.out.trans (t.below (by omega)), none, HR.out, rfl⟩
  | some k =>
    have tn : numK (some k) = (k : Int) := rfl
    obtain ⟨x, hx, hxk, hx2⟩ := hr
    have HR : Hid (FirstK L kd (some k)) := Lib.hid ⟨x, hx, hxk, hx2⟩
    have hO := HO.out
    obtain ⟨b, o, rfl, hb, hc⟩ := hO.at_ (by rintro rfl; simp at hx)
    obtain ⟨-, x1⟩ := hc k x hx
    have hkn : k < n := by rw [← HN.out]; exact (List.getElem?_eq_some_iff.1 hx).1
    have hsz1 := HB01.out.size
    have bx := hO.each x (List.mem_of_getElem? hx)
    have hdx := HD.out x (List.mem_of_getElem? hx)
    have HC : Hid (∀ W : World, FS w kd W → Calls Tryd.prog 60 #[.slice x.adr x.data.length x.cap] W fun e w' => ∃ v', e = .returned v' ∧ w'.ownsRow W.heap.size 5 1 v' x.data.length (row8 x.data) ∧ Below W.heap.size W w' ∧ (v' = .slice none 0 0 ↔ x.adr = none)) :=
      Lib.hid fun W hW => clone60 W (bx.below (hW.below.mono hB)) hdx
    have ck : ∀ (W : World), FS w kd W → W.cell? ⟨w.heap.size, 0, none⟩ = some (.int .u8 (kd : Int)) := fun W hW => by rw [cell_blk hW.box]; rfl
    have dk := fun (W : World) (hW : FS w kd W) => (hW.below.cell (p := ⟨b, o + k * 2 + 1, none⟩) (lt_of_cell x1)).trans x1
    have HX := Lib.hid hx
    have tk : ¬ ((k : Int) < 0) := by omega
    have hm : k * 2 + 1 < 2 * n := by omega
    rw [tn]
    clear hx hxk hx2 hO hc x1 bx hdx d0 d1 f0 f1 e0
    go_wp2_with fail
    have hS : FS w kd w1.drew := ⟨HQ0.out, ⟨_, _, HQ.out⟩, HB01.out.drew⟩
    refine wp_region_held_drew (S := fun W => FS w kd W) (by kernel_rfl) hS ?_
    clear hS
    intro HS
    refine wpAnyH_take (i := 0) (v := ?_) rfl (by kernel_rfl) (by kernel_rfl) (by kernel_rfl) (fun _ _ _ h => h) (Or.inl ⟨by go_simp, ?hy⟩) HS ?_
    case hy => intro W hW; have c := ck W hW; go_simp; (try with_reducible rfl)
    try simp only [List.getElem_toArray, List.getElem_cons_zero, List.getElem_cons_succ, Act.put, List.setIfInBounds_toArray, List.set_cons_zero, List.set_cons_succ]
    refine wpAnyH_take (i := 1) (v := ?_) rfl (by kernel_rfl) (by kernel_rfl) (by kernel_rfl) (fun _ _ _ h => h) (Or.inl ⟨by go_simp, ?hy⟩) HS ?_
    case hy => intro W hW; go_simp; (try with_reducible rfl)
    try simp only [List.getElem_toArray, List.getElem_cons_zero, List.getElem_cons_succ, Act.put, List.setIfInBounds_toArray, List.set_cons_zero, List.set_cons_succ]
    refine wpAnyH_take (i := 2) (v := ?_) rfl (by kernel_rfl) (by kernel_rfl) (by kernel_rfl) (fun _ _ _ h => h) (Or.inl ⟨by go_simp, ?hy⟩) HS ?_
    case hy => intro W hW; go_simp; (try with_reducible rfl)
    try simp only [List.getElem_toArray, List.getElem_cons_zero, List.getElem_cons_succ, Act.put, List.setIfInBounds_toArray, List.set_cons_zero, List.set_cons_succ]
    refine wpAnyH_take (i := 3) (v := .pointer (some ⟨b, o + k * 2, none⟩)) rfl (by kernel_rfl) (by kernel_rfl) (by kernel_rfl) (fun _ _ _ h => h) (Or.inl ⟨by go_simp, fun W hW => by go_simp; (try omega)⟩) HS ?_
    try simp only [List.getElem_toArray, List.getElem_cons_zero, List.getElem_cons_succ, Act.put, List.setIfInBounds_toArray, List.set_cons_zero, List.set_cons_succ]
    refine wpAnyH_take (i := 4) (v := .pointer (some ⟨b, o + k * 2 + 1, none⟩)) rfl (by kernel_rfl) (by kernel_rfl) (by kernel_rfl) (fun _ _ _ h => h) (Or.inl ⟨by go_simp, fun W hW => by go_simp⟩) HS ?_
    try simp only [List.getElem_toArray, List.getElem_cons_zero, List.getElem_cons_succ, Act.put, List.setIfInBounds_toArray, List.set_cons_zero, List.set_cons_succ]
    refine wpAnyH_take (i := 5) (v := ?_) rfl (by kernel_rfl) (by kernel_rfl) (by kernel_rfl) (fun _ _ _ h => h) (Or.inl ⟨by go_simp, ?hy⟩) HS ?_
    case hy => intro W hW; have c := dk W hW; go_simp; (try with_reducible rfl)
    try simp only [List.getElem_toArray, List.getElem_cons_zero, List.getElem_cons_succ, Act.put, List.setIfInBounds_toArray, List.set_cons_zero, List.set_cons_succ]
    refine wpAnyH_ready (rs := [6]) (by kernel_rfl) (by simp) ?_
    refine AllReadyH.cons rfl (fun K hK => ?_) AllReadyH.nil
    rw [if_pos (by kernel_rfl)]
    simp only [List.getElem_toArray, List.getElem_cons_zero, List.getElem_cons_succ]
    go_simp
    refine (HC.out _ HS).mono ?_
    rintro e w5 ⟨v5, rfl, ho5, hb5, -⟩
    have ho5 := own_mono ho5 HS.below.size
    obtain ⟨A5, c5, rfl, hc5⟩ := own_slice2 ho5
    have HO5 := Lib.hid ho5
    clear ho5
    refine hK.out _ _ (HS.step hb5) (fun HS => ?_)
    clear hK
    try simp only [List.getElem_toArray, List.getElem_cons_zero, List.getElem_cons_succ, Act.put, List.setIfInBounds_toArray, List.set_cons_zero, List.set_cons_succ]
    refine wpAnyH_ready (rs := [7]) (by kernel_rfl) (by simp) ?_
    refine AllReadyH.cons rfl (fun K hK => ?_) AllReadyH.nil
    rw [if_pos (by kernel_rfl)]
    simp only [List.getElem_toArray, List.getElem_cons_zero, List.getElem_cons_succ]
    go_simp
    refine (clip56 _ _ _ hc5 _).mono ?_
    rintro e w6 ⟨rfl, rfl⟩
    refine hK.out _ _ (HS) (fun HS => ?_)
    clear hK
    try simp only [List.getElem_toArray, List.getElem_cons_zero, List.getElem_cons_succ, Act.put, List.setIfInBounds_toArray, List.set_cons_zero, List.set_cons_succ]
    refine wpAnyH_take (i := 8) (v := ?_) rfl (by kernel_rfl) (by kernel_rfl) (by kernel_rfl) (fun _ _ _ h => h) (Or.inl ⟨by go_simp, ?hy⟩) HS ?_
    case hy => intro W hW; go_simp; (try with_reducible rfl)
    try simp only [List.getElem_toArray, List.getElem_cons_zero, List.getElem_cons_succ, Act.put, List.setIfInBounds_toArray, List.set_cons_zero, List.set_cons_succ]
    obtain ⟨y0, y1, hq5⟩ := HS.res
    have d0' := cell_blk hq5 0
    have d1' := cell_blk hq5 1
    have f0' := frozen_blk hq5 0
    have f1' := frozen_blk hq5 1
    have t := two_set (v0 := .int .u8 (kd : Int)) (v1 := .slice A5 x.data.length x.data.length) hq5
    have HS9 := HS.turn t
    have g0 := cell_blk (t.get (lt_of_blk hq5)) 0
    have g1 := cell_blk (t.get (lt_of_blk hq5)) 1
    have HT := Lib.hid (HO5.out.kept t.grown (own_blk2 HO5.out hq5 (by decide)))
    simp only [List.getElem?_toArray, List.getElem?_cons_zero, List.getElem?_cons_succ] at d0' d1' g0 g1
    refine wpAnyH_ready (rs := [9]) (by kernel_rfl) (by simp) ?_
    refine AllReadyH.cons rfl (fun K hK => ?_) AllReadyH.nil
    rw [if_pos (by kernel_rfl)]
    simp only [List.getElem_toArray, List.getElem_cons_zero, List.getElem_cons_succ]
    go_simp
    refine hK.out _ _ (HS9) (fun HS => ?_)
    clear hK
    try simp only [List.getElem_toArray, List.getElem_cons_zero, List.getElem_cons_succ, Act.put, List.setIfInBounds_toArray, List.set_cons_zero, List.set_cons_succ]
    refine wpAnyH_take (i := 10) (v := ?_) rfl (by kernel_rfl) (by kernel_rfl) (by kernel_rfl) (fun _ _ _ h => h) (Or.inl ⟨by go_simp, ?hy⟩) HS ?_
    case hy => intro W hW; go_simp; (try with_reducible rfl)
    try simp only [List.getElem_toArray, List.getElem_cons_zero, List.getElem_cons_succ, Act.put, List.setIfInBounds_toArray, List.set_cons_zero, List.set_cons_succ]
    refine wpAnyH_done (by kernel_rfl) ?_ _
    go_wp2_with fail
    refine bodyPost_ret (v := .tuple #[.agg #[.int .u8 (kd : Int), .slice A5 x.data.length x.data.length], .bool true]) ?_ rfl ?_
    · simp [results, Tryd.results21, go_sem, g0, g1]
      try rfl
    · exact ⟨HS.below, some k, HR.out, x, A5, c5, HX.out, rfl, HT.out⟩
end Go.Proofs.YtfolamkjlgpgmaaDoor

/- The first option of a kind, as it is: the walk. No condition but that the options read. -/
namespace Go.Proofs.YtfolamkjlgpgmaaDoor
open Go.RowKit
set_option linter.unusedVariables false
set_option linter.unusedSimpArgs false
/-- the first of a kind itself -/
def SelfAt (L : List Opt) (e : Ending) : Option Nat → Prop
  | none => e = .returned (.tuple #[.agg #[.int .u8 0, .slice none 0 0], .bool false])
  | some k => ∃ x, L[k]? = some x ∧ e = .returned (.tuple #[.agg #[.int .u8 (x.kind : Int), .slice x.adr x.data.length x.cap], .bool true])
def SelfPost (L : List Opt) (kd : Nat) (w : World) (e : Ending) (w' : World) : Prop := Below w.heap.size w w' ∧ ∃ r, FirstK L kd r ∧ SelfAt L e r
set_option maxRecDepth 100000 in
set_option maxHeartbeats 1000000 in
theorem find22 {A : Option Addr} {c kd B : Nat} {L : List Opt} (w : World) (h : OptsRd w B A L) (hB : B ≤ w.heap.size) :
    Calls Tryd.prog 22 #[.slice A L.length c, .int .u8 (kd : Int)] w (SelfPost L kd w) := by
  have hal : Below w.heap.size w (w.alloc (.cells #[.int .u8 0, .slice none 0 0] 41)) := (Below.refl _ _).alloc (Nat.le_refl _) _
  have hq := heap_alloc_new w (.cells #[.int .u8 0, .slice none 0 0] 41)
  obtain ⟨n, hn⟩ : ∃ n, L.length = n := ⟨_, rfl⟩
  have HN := Lib.hid hn
  have hm := h.many
  have HO := Lib.hid (h.below (hal.mono hB))
  have HAL := Lib.hid hal
  have HQ := Lib.hid hq
  rw [hn] at hm ⊢
  have d0 := cell_blk hq 0
  have d1 := cell_blk hq 1
  have f0 := frozen_blk hq 0
  have f1 := frozen_blk hq 1
  simp only [List.getElem?_toArray, List.getElem?_cons_zero, List.getElem?_cons_succ] at d0 d1
  clear h hn hal hq
  go_enter Tryd.func22, Tryd.ntmps22
  go_wp2_with fail
  obtain ⟨W, hW⟩ : ∃ W, W = w.alloc (.cells #[.int .u8 0, .slice none 0 0] 41) := ⟨_, rfl⟩
  rw [← hW] at HO HAL HQ d0 d1 f0 f1 ⊢
  clear hW
  go_loop [6] (fun i => ∃ k : Nat, k ≤ n ∧ i = .int .i64 k ∧ (∀ j y, j < k → L[j]? = some y → y.kind ≠ kd)) (fun i => n - (intOf i).toNat)
  case atStart => exact ⟨0, Nat.zero_le _, rfl, fun j y hj => absurd hj (by omega)⟩
  case round =>
    obtain ⟨k, hk, rfl, hno⟩ := hrel
    have HNO := Lib.hid hno
    clear hno
    by_cases hlt : k < n
    · obtain ⟨x, hx⟩ : ∃ x, L[k]? = some x := ⟨L[k]'(by rw [HN.out]; exact hlt), List.getElem?_eq_getElem _⟩
      obtain ⟨b, o, rfl, hb, hc⟩ := HO.out.at_ (by rintro rfl; simp at hx)
      obtain ⟨c0, c1⟩ := hc k x hx
      have HX := Lib.hid hx
      clear hx hc
      by_cases hkd : x.kind = kd
      · have t1 : ((x.kind : Int) == kd) = true := by rw [beq_iff_eq]; omega
        have HKD := Lib.hid hkd
        clear hkd
        go_wp2_with fail
        have t := two_set (v0 := .int .u8 (x.kind : Int)) (v1 := .slice x.adr x.data.length x.cap) HQ.out
        have g0 := cell_blk (t.get (lt_of_blk HQ.out)) 0
        have g1 := cell_blk (t.get (lt_of_blk HQ.out)) 1
        simp only [List.getElem?_toArray, List.getElem?_cons_zero, List.getElem?_cons_succ] at g0 g1
        refine bodyPost_ret (v := .tuple #[.agg #[.int .u8 (x.kind : Int), .slice x.adr x.data.length x.cap], .bool true]) ?_ rfl ?_
        · simp [results, Tryd.results22, go_sem, g0, g1]
          try rfl
        · exact ⟨HAL.out.trans (t.below (Nat.le_refl _)), some k, ⟨x, HX.out, HKD.out, HNO.out⟩, x, HX.out, rfl⟩
      · have t1 : ((x.kind : Int) == kd) = false := by rw [beq_eq_false_iff_ne]; omega
        have HNX : Hid (∀ j y, j < k + 1 → L[j]? = some y → y.kind ≠ kd) := Lib.hid (by
          intro j y hj hy
          rcases Nat.lt_or_ge j k with h1 | h1
          · exact HNO.out j y h1 hy
          · obtain rfl : j = k := by omega
            have := HX.out
            rw [hy] at this
            cases this
            exact hkd)
        clear hkd
        go_wp2_with fail
        go_round
        case rel => exact ⟨k + 1, by omega, by go_num, HNX.out⟩
        case measure => simp [intOf]; omega
    · obtain rfl : k = n := by omega
      go_wp2_with fail
      have t := two_set (v0 := .int .u8 0) (v1 := .slice none 0 0) HQ.out
      have g0 := cell_blk (t.get (lt_of_blk HQ.out)) 0
      have g1 := cell_blk (t.get (lt_of_blk HQ.out)) 1
      simp only [List.getElem?_toArray, List.getElem?_cons_zero, List.getElem?_cons_succ] at g0 g1
      refine bodyPost_ret (v := .tuple #[.agg #[.int .u8 0, .slice none 0 0], .bool false]) ?_ rfl ?_
      · simp [results, Tryd.results22, go_sem, g0, g1]
        try rfl
      · refine ⟨HAL.out.trans (t.below (Nat.le_refl _)), none, fun x hx => ?_, rfl⟩
        obtain ⟨j, hj, rfl⟩ := List.getElem_of_mem hx
        exact HNO.out j _ (by rw [← HN.out]; exact hj) (List.getElem?_eq_getElem hj)
end Go.Proofs.YtfolamkjlgpgmaaDoor
