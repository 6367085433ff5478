/- The first option of a kind: the walks. No condition but that the options read. -/
import Derived.Test.YtfolamkjlgpgmaaDoorSameO
import Derived.Handy
namespace Go.Proofs.YtfolamkjlgpgmaaDoor
open Go.RowKit
set_option linter.unusedVariables false
set_option linter.unusedSimpArgs false
/-- the first of a kind, or none is -/
def FirstK (L : List Opt) (kd : Nat) (r : Option Nat) : Prop := match r with
  | none => ∀ x ∈ L, x.kind ≠ kd
  | some k => ∃ x, L[k]? = some x ∧ x.kind = kd ∧ ∀ j y, j < k → L[j]? = some y → y.kind ≠ kd
def numK (r : Option Nat) : Int := match r with
  | none => -1
  | some k => (k : Int)
def BoolPost (b : Bool) (w : World) (e : Ending) (w' : World) : Prop := e = .returned (.bool b) ∧ Below w.heap.size w w'
set_option maxRecDepth 100000 in
set_option maxHeartbeats 1000000 in
theorem clos59 {A : Option Addr} {a kd p n c : Nat} (w : World) (h : w.cell? ⟨p, 0, none⟩ = some (.int .u8 (kd : Int))) :
    Calls Tryd.prog 59 #[.agg #[.int .u8 (a : Int), .slice A n c], .pointer (some ⟨p, 0, none⟩)] w (BoolPost ((a : Int) == kd) w) := by
  have hal : Below w.heap.size w (w.alloc (.cells #[.int .u8 (a : Int), .slice A n c] 41)) := (Below.refl _ _).alloc (Nat.le_refl _) _
  have hp := lt_of_cell h
  have c0 := (hal.cell (p := ⟨p, 0, none⟩) hp).trans h
  go_enter Tryd.func59, Tryd.ntmps59
  go_wp2_with fail
  go_ret
  exact ⟨rfl, hal⟩
def IdxPost (L : List Opt) (kd : Nat) (w : World) (e : Ending) (w' : World) : Prop := ∃ r, FirstK L kd r ∧ e = .returned (.int .i64 (numK r)) ∧ Below w.heap.size w w'
set_option maxRecDepth 100000 in
set_option maxHeartbeats 1000000 in
theorem idx58 {A : Option Addr} {c kd p B : Nat} {L : List Opt} (w : World) (h : OptsRd w B A L) (hB : B ≤ w.heap.size) (hp : w.cell? ⟨p, 0, none⟩ = some (.int .u8 (kd : Int))) :
    Calls Tryd.prog 58 #[.slice A L.length c, .func (.func 59) #[] #[.pointer (some ⟨p, 0, none⟩)]] w (IdxPost L kd w) := by
  obtain ⟨n, hn⟩ : ∃ n, L.length = n := ⟨_, rfl⟩
  have HN := Lib.hid hn
  have hm := h.many
  have HO := Lib.hid h
  have hpl := lt_of_cell hp
  have HP := Lib.hid hp
  rw [hn] at hm ⊢
  clear h hn hp
  go_enter Tryd.func58, Tryd.ntmps58
  go_wp2_with fail
  go_loopw [8] (fun i wr => ∃ k : Nat, k ≤ n ∧ i = .int .i64 k ∧ (∀ j y, j < k → L[j]? = some y → y.kind ≠ kd) ∧ Below w.heap.size w wr) (fun i _ => n - (intOf i).toNat)
  case atStart => exact ⟨0, Nat.zero_le _, rfl, fun j y hj => absurd hj (by omega), Below.refl _ _⟩
  case round =>
    obtain ⟨k, hk, rfl, hno, hW⟩ := hrel
    have HNO := Lib.hid hno
    clear hno
    by_cases hlt : k < n
    · obtain ⟨x, hx⟩ : ∃ x, L[k]? = some x := ⟨L[k]'(by rw [HN.out]; exact hlt), List.getElem?_eq_getElem _⟩
      have hO := HO.out.below (hW.mono hB)
      obtain ⟨b, o, rfl, hb, hc⟩ := hO.at_ (by rintro rfl; simp at hx)
      obtain ⟨c0, c1⟩ := hc k x hx
      have HC := Lib.hid (clos59 (A := x.adr) (a := x.kind) (n := x.data.length) (c := x.cap) wr ((hW.cell (p := ⟨p, 0, none⟩) hpl).trans HP.out))
      have HX := Lib.hid hx
      have HW := Lib.hid hW
      have hsz := hW.size
      clear hx hO hc hW
      by_cases hkd : x.kind = kd
      · rw [show ((x.kind : Int) == kd) = true by rw [beq_iff_eq]; omega] at HC
        have HKD := Lib.hid hkd
        clear hkd
        go_wp2_with fail
        refine (HC.out).mono ?_
        rintro e w1 ⟨rfl, hb1⟩
        have HB1 := Lib.hid (HW.out.trans (hb1.mono hsz))
        clear hb1 HC
        go_wp2_with fail
        go_ret
        exact ⟨some k, ⟨x, HX.out, HKD.out, HNO.out⟩, rfl, HB1.out⟩
      · rw [show ((x.kind : Int) == kd) = false by rw [beq_eq_false_iff_ne]; omega] at HC
        have HNX : Hid (∀ j y, j < k + 1 → L[j]? = some y → y.kind ≠ kd) := Lib.hid (by
          intro j y hj hy
          rcases Nat.lt_or_ge j k with h1 | h1
          · exact HNO.out j y h1 hy
          · obtain rfl : j = k := by omega
            have := HX.out
            rw [hy] at this
            cases this
            exact hkd)
        clear hkd
        go_wp2_with fail
        refine (HC.out).mono ?_
        rintro e w1 ⟨rfl, hb1⟩
        have HB1 := Lib.hid (HW.out.trans (hb1.mono hsz))
        clear hb1 HC
        go_wp2_with fail
        go_roundw
        case rel => exact ⟨k + 1, by omega, by go_num, HNX.out, HB1.out⟩
        case measure => simp [intOf]; omega
    · obtain rfl : k = n := by omega
      have HW := Lib.hid hW
      clear hW
      go_wp2_with fail
      go_ret
      refine ⟨none, fun x hx => ?_, rfl, HW.out⟩
      obtain ⟨j, hj, rfl⟩ := List.getElem_of_mem hx
      exact HNO.out j _ (by rw [← HN.out]; exact hj) (List.getElem?_eq_getElem hj)
end Go.Proofs.YtfolamkjlgpgmaaDoor
