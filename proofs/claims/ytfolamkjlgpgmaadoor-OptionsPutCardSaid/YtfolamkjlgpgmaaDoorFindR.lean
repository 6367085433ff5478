/- The first option of a kind, as it is: the walk. No condition but that the options read. -/
import Derived.Test.YtfolamkjlgpgmaaDoorFind2
namespace Go.Proofs.YtfolamkjlgpgmaaDoor
open Go.RowKit
set_option linter.unusedVariables false
set_option linter.unusedSimpArgs false
/-- the first of a kind itself -/
def SelfAt (L : List Opt) (e : Ending) : Option Nat → Prop
  | none => e = .returned (.tuple #[.agg #[.int .u8 0, .slice none 0 0], .bool false])
  | some k => ∃ x, L[k]? = some x ∧ e = .returned (.tuple #[.agg #[.int .u8 (x.kind : Int), .slice x.adr x.data.length x.cap], .bool true])
def SelfPost (L : List Opt) (kd : Nat) (w : World) (e : Ending) (w' : World) : Prop := Below w.heap.size w w' ∧ ∃ r, FirstK L kd r ∧ SelfAt L e r
set_option maxRecDepth 100000 in
set_option maxHeartbeats 1000000 in
theorem find22 {A : Option Addr} {c kd B : Nat} {L : List Opt} (w : World) (h : OptsRd w B A L) (hB : B ≤ w.heap.size) :
    Calls Tryd.prog 22 #[.slice A L.length c, .int .u8 (kd : Int)] w (SelfPost L kd w) := by
  have hal : Below w.heap.size w (w.alloc (.cells #[.int .u8 0, .slice none 0 0] 41)) := (Below.refl _ _).alloc (Nat.le_refl _) _
  have hq := heap_alloc_new w (.cells #[.int .u8 0, .slice none 0 0] 41)
  obtain ⟨n, hn⟩ : ∃ n, L.length = n := ⟨_, rfl⟩
  have HN := Lib.hid hn
  have hm := h.many
  have HO := Lib.hid (h.below (hal.mono hB))
  have HAL := Lib.hid hal
  have HQ := Lib.hid hq
  rw [hn] at hm ⊢
  have d0 := cell_blk hq 0
  have d1 := cell_blk hq 1
  have f0 := frozen_blk hq 0
  have f1 := frozen_blk hq 1
  simp only [List.getElem?_toArray, List.getElem?_cons_zero, List.getElem?_cons_succ] at d0 d1
  clear h hn hal hq
  go_enter Tryd.func22, Tryd.ntmps22
  go_wp2_with fail
  obtain ⟨W, hW⟩ : ∃ W, W = w.alloc (.cells #[.int .u8 0, .slice none 0 0] 41) := ⟨_, rfl⟩
  rw [← hW] at HO HAL HQ d0 d1 f0 f1 ⊢
  clear hW
  go_loop [6] (fun i => ∃ k : Nat, k ≤ n ∧ i = .int .i64 k ∧ (∀ j y, j < k → L[j]? = some y → y.kind ≠ kd)) (fun i => n - (intOf i).toNat)
  case atStart => exact ⟨0, Nat.zero_le _, rfl, fun j y hj => absurd hj (by omega)⟩
  case round =>
    obtain ⟨k, hk, rfl, hno⟩ := hrel
    have HNO := Lib.hid hno
    clear hno
    by_cases hlt : k < n
    · obtain ⟨x, hx⟩ : ∃ x, L[k]? = some x := ⟨L[k]'(by rw [HN.out]; exact hlt), List.getElem?_eq_getElem _⟩
      obtain ⟨b, o, rfl, hb, hc⟩ := HO.out.at_ (by rintro rfl; simp at hx)
      obtain ⟨c0, c1⟩ := hc k x hx
      have HX := Lib.hid hx
      clear hx hc
      by_cases hkd : x.kind = kd
      · have t1 : ((x.kind : Int) == kd) = true := by rw [beq_iff_eq]; omega
        have HKD := Lib.hid hkd
        clear hkd
        go_wp2_with fail
        have t := two_set (v0 := .int .u8 (x.kind : Int)) (v1 := .slice x.adr x.data.length x.cap) HQ.out
        have g0 := cell_blk (t.get (lt_of_blk HQ.out)) 0
        have g1 := cell_blk (t.get (lt_of_blk HQ.out)) 1
        simp only [List.getElem?_toArray, List.getElem?_cons_zero, List.getElem?_cons_succ] at g0 g1
        refine bodyPost_ret (v := .tuple #[.agg #[.int .u8 (x.kind : Int), .slice x.adr x.data.length x.cap], .bool true]) ?_ rfl ?_
        · simp [results, Tryd.results22, go_sem, g0, g1]
          try rfl
        · exact ⟨HAL.out.trans (t.below (Nat.le_refl _)), some k, ⟨x, HX.out, HKD.out, HNO.out⟩, x, HX.out, rfl⟩
      · have t1 : ((x.kind : Int) == kd) = false := by rw [beq_eq_false_iff_ne]; omega
        have HNX : Hid (∀ j y, j < k + 1 → L[j]? = some y → y.kind ≠ kd) := Lib.hid (by
          intro j y hj hy
          rcases Nat.lt_or_ge j k with h1 | h1
          · exact HNO.out j y h1 hy
          · obtain rfl : j = k := by omega
            have := HX.out
            rw [hy] at this
            cases this
            exact hkd)
        clear hkd
        go_wp2_with fail
        go_round
        case rel => exact ⟨k + 1, by omega, by go_num, HNX.out⟩
        case measure => simp [intOf]; omega
    · obtain rfl : k = n := by omega
      go_wp2_with fail
      have t := two_set (v0 := .int .u8 0) (v1 := .slice none 0 0) HQ.out
      have g0 := cell_blk (t.get (lt_of_blk HQ.out)) 0
      have g1 := cell_blk (t.get (lt_of_blk HQ.out)) 1
      simp only [List.getElem?_toArray, List.getElem?_cons_zero, List.getElem?_cons_succ] at g0 g1
      refine bodyPost_ret (v := .tuple #[.agg #[.int .u8 0, .slice none 0 0], .bool false]) ?_ rfl ?_
      · simp [results, Tryd.results22, go_sem, g0, g1]
        try rfl
      · refine ⟨HAL.out.trans (t.below (Nat.le_refl _)), none, fun x hx => ?_, rfl⟩
        obtain ⟨j, hj, rfl⟩ := List.getElem_of_mem hx
        exact HNO.out j _ (by rw [← HN.out]; exact hj) (List.getElem?_eq_getElem hj)
end Go.Proofs.YtfolamkjlgpgmaaDoor
