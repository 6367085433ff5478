/- Options that come: how they are read; are they more than is gone through. No condition but the form's reach. -/
import Derived.Test.YtfolamkjlgpgmaaDoorConcat
namespace Go.Proofs.YtfolamkjlgpgmaaDoor
open Go.RowKit
set_option linter.unusedVariables false
set_option linter.unusedSimpArgs false
/-- an option in memory: its kind, where its data stand -/
structure Opt where
  kind : Nat
  adr : Option Addr
  cap : Nat
  data : List Nat
/-- a slice at A reads as these options, below block B -/
structure OptsAt (w : World) (B : Nat) (A : Option Addr) (L : List Opt) : Prop where
  at_ : L ≠ [] → ∃ b o, A = some ⟨b, o, none⟩ ∧ b < B ∧ ∀ i x, L[i]? = some x → w.cell? ⟨b, o + i * 2, none⟩ = some (.int .u8 (x.kind : Int)) ∧ w.cell? ⟨b, o + i * 2 + 1, none⟩ = some (.slice x.adr x.data.length x.cap)
  each : ∀ x ∈ L, Bs w B x.adr x.cap x.data ∧ x.kind < 256 ∧ (∀ y ∈ x.data, y < 256) ∧ x.cap ≤ 140737488351232
  many : L.length ≤ 140737488351232
theorem OptsAt.below {w w' : World} {B : Nat} {A : Option Addr} {L : List Opt} (h : OptsAt w B A L) (hb : Below B w w') : OptsAt w' B A L := by
  refine ⟨fun hl => ?_, fun x hx => ?_, h.many⟩
  · obtain ⟨b, o, e, hlt, hc⟩ := h.at_ hl
    refine ⟨b, o, e, hlt, fun i x hx => ?_⟩
    obtain ⟨h1, h2⟩ := hc i x hx
    exact ⟨(hb.cell (p := ⟨b, o + i * 2, none⟩) hlt).trans h1, (hb.cell (p := ⟨b, o + i * 2 + 1, none⟩) hlt).trans h2⟩
  · obtain ⟨h1, h2⟩ := h.each x hx
    exact ⟨h1.below hb, h2⟩
def totD (L : List Opt) : Nat := (L.map fun x => x.data.length).sum
theorem totD_succ {L : List Opt} {k : Nat} {x : Opt} (h : L[k]? = some x) : totD (L.take (k + 1)) = totD (L.take k) + x.data.length := by
  unfold totD
  rw [List.take_add_one, h]
  simp
/-- more than is gone through, or not -/
def GreatPost (L : List Opt) (w : World) (e : Ending) (w' : World) : Prop := ∃ b, e = .returned (.bool b) ∧ w = w' ∧ (b = false → L.length + totD L ≤ 5000)
set_option maxRecDepth 100000 in
set_option maxHeartbeats 1000000 in
theorem great17 {A : Option Addr} {cap B : Nat} {L : List Opt} (w : World) (h : OptsAt w B A L) :
    Calls Tryd.prog 17 #[.slice A L.length cap] w (GreatPost L w) := by
  have hm := h.many
  obtain ⟨n, hn⟩ : ∃ n, L.length = n := ⟨_, rfl⟩
  have HN := Lib.hid hn
  have HA := Lib.hid h.at_
  have HE := Lib.hid h.each
  rw [hn] at hm ⊢
  clear h hn
  go_enter Tryd.func17, Tryd.ntmps17
  go_wp2_with fail
  go_loop [3, 4] (fun s i => ∃ k T : Nat, k ≤ n ∧ i = .int .i64 k ∧ s = .int .i64 (T : Int) ∧ T = n + totD (L.take k) ∧ T ≤ 300000000000000) (fun _ i => n - (intOf i).toNat)
  case atStart => exact ⟨0, n, Nat.zero_le _, rfl, rfl, by simp [totD], by omega⟩
  case round =>
    obtain ⟨k, T, hk, rfl, rfl, hT, hT2⟩ := hrel
    have HT := Lib.hid hT
    clear hT
    by_cases hlt : k < n
    · by_cases h9 : T < 9000
      · obtain ⟨x, hx⟩ : ∃ x, L[k]? = some x := ⟨L[k]'(by rw [HN.out]; exact hlt), List.getElem?_eq_getElem _⟩
        obtain ⟨b, o, rfl, hb, hc⟩ := HA.out (by rintro rfl; simp at hx)
        obtain ⟨c0, c1⟩ := hc k x hx
        have hx2 := HE.out x (List.mem_of_getElem? hx)
        have hl := hx2.1.cap
        have hl2 := hx2.2.2.2
        have hl3 : x.data.length ≤ 140737488351232 := by omega
        have HS := Lib.hid (totD_succ hx)
        have t9 : (T : Int) < 9000 := by omega
        clear hx hc hx2 hl hl2 c0
        go_wp2_with fail
        go_round
        case rel => exact ⟨k + 1, T + x.data.length, by omega, by go_num, by go_num, by rw [HS.out, HT.out]; omega, by omega⟩
        case measure => simp [intOf]; omega
      · have t9 : ¬ ((T : Int) < 9000) := by omega
        go_wp2_with fail
        go_ret
        exact ⟨_, rfl, rfl, fun h => by simp at h; omega⟩
    · have e : k = n := by omega
      have HF : Hid (T = n + totD L) := Lib.hid (by rw [HT.out, e, ← HN.out, List.take_length])
      go_wp2_with fail
      go_ret
      exact ⟨_, rfl, rfl, fun h => by have := HF.out; have h2 := HN.out; simp at h; omega⟩
end Go.Proofs.YtfolamkjlgpgmaaDoor
