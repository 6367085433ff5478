/- Several texts in one: Equal, Eq2. No condition beyond those that each part names. -/
import Derived.Test.YtfolamkjlgpgmaaGreatDoorTwinA
import Derived.Test.YtfolamkjlgpgmaaGreatDoorDoms
import Derived.Stop.BytesEq
import Derived.Handy
/- Are they the same: addresses, texts, records: the walks. No condition. -/
namespace Go.Proofs.YtfolamkjlgpgmaaGreatDoor
open Go.RowKit
set_option linter.unusedVariables false
set_option linter.unusedSimpArgs false
theorem size5 (w : World) : (sizeOf 5).run Tryz.prog w = .ok 1 w := by
  obtain ⟨i, hi⟩ : ∃ i, Tryz.prog.info? 5 = some i := Option.isSome_iff_exists.1 (by kernel_rfl)
  have e : Tryz.prog.cellsOf 5 = 1 := by kernel_rfl
  rw [← e]
  exact run_sizeOf w hi
theorem u8_cell {x : Nat} (h : x < 256) : Value.int .u8 (x : Int) = Extern.Stop.cell (UInt8.ofNat x) := by
  simp [Extern.Stop.cell, Nat.mod_eq_of_lt h]
theorem adr_same {y : Nat → Nat} (hy : ∀ j, j < 16 → y j < 256) (W : World) : (binOp .neq 32 (.agg #[.int .u8 (y 0 : Int), .int .u8 (y 1 : Int), .int .u8 (y 2 : Int), .int .u8 (y 3 : Int), .int .u8 (y 4 : Int), .int .u8 (y 5 : Int), .int .u8 (y 6 : Int), .int .u8 (y 7 : Int), .int .u8 (y 8 : Int), .int .u8 (y 9 : Int), .int .u8 (y 10 : Int), .int .u8 (y 11 : Int), .int .u8 (y 12 : Int), .int .u8 (y 13 : Int), .int .u8 (y 14 : Int), .int .u8 (y 15 : Int)]) (.agg #[.int .u8 (y 0 : Int), .int .u8 (y 1 : Int), .int .u8 (y 2 : Int), .int .u8 (y 3 : Int), .int .u8 (y 4 : Int), .int .u8 (y 5 : Int), .int .u8 (y 6 : Int), .int .u8 (y 7 : Int), .int .u8 (y 8 : Int), .int .u8 (y 9 : Int), .int .u8 (y 10 : Int), .int .u8 (y 11 : Int), .int .u8 (y 12 : Int), .int .u8 (y 13 : Int), .int .u8 (y 14 : Int), .int .u8 (y 15 : Int)])).run Tryz.prog W = .ok (.bool false) W := by
  have e : (#[.int .u8 (y 0 : Int), .int .u8 (y 1 : Int), .int .u8 (y 2 : Int), .int .u8 (y 3 : Int), .int .u8 (y 4 : Int), .int .u8 (y 5 : Int), .int .u8 (y 6 : Int), .int .u8 (y 7 : Int), .int .u8 (y 8 : Int), .int .u8 (y 9 : Int), .int .u8 (y 10 : Int), .int .u8 (y 11 : Int), .int .u8 (y 12 : Int), .int .u8 (y 13 : Int), .int .u8 (y 14 : Int), .int .u8 (y 15 : Int)] : Array Value) = (((List.range 16).map fun i => UInt8.ofNat (y i)).map Extern.Stop.cell).toArray := by
    rw [List.map_map]
    simp only [show List.range 16 = [0, 1, 2, 3, 4, 5, 6, 7, 8, 9, 10, 11, 12, 13, 14, 15] from rfl, List.map_cons, List.map_nil, Function.comp]
    rw [u8_cell (hy 0 (by decide)), u8_cell (hy 1 (by decide)), u8_cell (hy 2 (by decide)), u8_cell (hy 3 (by decide)), u8_cell (hy 4 (by decide)), u8_cell (hy 5 (by decide)), u8_cell (hy 6 (by decide)), u8_cell (hy 7 (by decide)), u8_cell (hy 8 (by decide)), u8_cell (hy 9 (by decide)), u8_cell (hy 10 (by decide)), u8_cell (hy 11 (by decide)), u8_cell (hy 12 (by decide)), u8_cell (hy 13 (by decide)), u8_cell (hy 14 (by decide)), u8_cell (hy 15 (by decide))]
  rw [e, run_neq_struct, run_equalIn_bytes W 9998 32 5 16 (by kernel_rfl) (by kernel_rfl) size5 _ _ (by simp) (by simp)]
  simp
theorem same83 {A A2 : Option Addr} {c c2 B : Nat} {L : List (Nat → Nat)} (w : World) (h : AdrsAt w B A L) (h2 : AdrsAt w B A2 L) (hs : ∀ y ∈ L, ∀ j, j < 16 → y j < 256) :
    Calls Tryz.prog 53 #[.slice A L.length c, .slice A2 L.length c2] w (SamePost true w) := by
  have H1 := Lib.hid h.at_
  have H2 := Lib.hid h2.at_
  have hl := h.many
  obtain ⟨n, hn⟩ : ∃ n, L.length = n := ⟨_, rfl⟩
  have HN := Lib.hid hn
  have HSM := Lib.hid hs
  rw [hn] at hl ⊢
  clear h h2 hn hs
  go_enter Tryz.func53, Tryz.ntmps53
  go_wp2_with fail
  go_loopw [5] (fun i wr => ∃ k j : Nat, k ≤ n ∧ i = .int .i64 k ∧ wr = w.drewN j) (fun i _ => n - (intOf i).toNat)
  case atStart => exact ⟨0, 0, Nat.zero_le _, rfl, rfl⟩
  case round =>
    obtain ⟨k, j, hk, rfl, rfl⟩ := hrel
    by_cases hlt : k < n
    · obtain ⟨y, hy⟩ : ∃ y, L[k]? = some y := ⟨L[k]'(by rw [HN.out]; exact hlt), List.getElem?_eq_getElem _⟩
      obtain ⟨b, o, rfl, hb, hc⟩ := H1.out (by rintro rfl; simp at hy)
      obtain ⟨b2, o2, rfl, hb2, hc2⟩ := H2.out (by rintro rfl; simp at hy)
      have y0 := hc k y hy 0 (by decide)
      have z0 := hc2 k y hy 0 (by decide)
      have y1 := hc k y hy 1 (by decide)
      have z1 := hc2 k y hy 1 (by decide)
      have y2 := hc k y hy 2 (by decide)
      have z2 := hc2 k y hy 2 (by decide)
      have y3 := hc k y hy 3 (by decide)
      have z3 := hc2 k y hy 3 (by decide)
      have y4 := hc k y hy 4 (by decide)
      have z4 := hc2 k y hy 4 (by decide)
      have y5 := hc k y hy 5 (by decide)
      have z5 := hc2 k y hy 5 (by decide)
      have y6 := hc k y hy 6 (by decide)
      have z6 := hc2 k y hy 6 (by decide)
      have y7 := hc k y hy 7 (by decide)
      have z7 := hc2 k y hy 7 (by decide)
      have y8 := hc k y hy 8 (by decide)
      have z8 := hc2 k y hy 8 (by decide)
      have y9 := hc k y hy 9 (by decide)
      have z9 := hc2 k y hy 9 (by decide)
      have y10 := hc k y hy 10 (by decide)
      have z10 := hc2 k y hy 10 (by decide)
      have y11 := hc k y hy 11 (by decide)
      have z11 := hc2 k y hy 11 (by decide)
      have y12 := hc k y hy 12 (by decide)
      have z12 := hc2 k y hy 12 (by decide)
      have y13 := hc k y hy 13 (by decide)
      have z13 := hc2 k y hy 13 (by decide)
      have y14 := hc k y hy 14 (by decide)
      have z14 := hc2 k y hy 14 (by decide)
      have y15 := hc k y hy 15 (by decide)
      have z15 := hc2 k y hy 15 (by decide)
      rw [Nat.add_zero] at y0 z0
      have t1 : decide ((k : Int) < (n : Int)) = true := by simp; omega
      have hEQ := adr_same (HSM.out y (List.mem_of_getElem? hy))
      clear hy hc hc2
      go_wp2_with fail
      go_quiet (fail)
      go_wp2_with fail
      go_roundw
      case rel => exact ⟨k + 1, _, by omega, by go_num, rfl⟩
      case measure => simp [intOf]; omega
    · obtain rfl : k = n := by omega
      have t1 : decide ((k : Int) < (k : Int)) = false := by simp
      go_wp2_with fail
      go_ret
      exact ⟨rfl, _, rfl⟩
theorem same84 {A A2 : Option Addr} {c c2 B : Nat} {l : List ByteArray} (w : World) (h : DomsAt w B A l) (h2 : DomsAt w B A2 l) :
    Calls Tryz.prog 54 #[.slice A l.length c, .slice A2 l.length c2] w (SamePost true w) := by
  have H1 := Lib.hid h.at_
  have H2 := Lib.hid h2.at_
  have hl := h.many
  obtain ⟨n, hn⟩ : ∃ n, l.length = n := ⟨_, rfl⟩
  have HN := Lib.hid hn
  rw [hn] at hl ⊢
  clear h h2 hn
  go_enter Tryz.func54, Tryz.ntmps54
  go_wp2_with fail
  go_loopw [5] (fun i wr => ∃ k j : Nat, k ≤ n ∧ i = .int .i64 k ∧ wr = w.drewN j) (fun i _ => n - (intOf i).toNat)
  case atStart => exact ⟨0, 0, Nat.zero_le _, rfl, rfl⟩
  case round =>
    obtain ⟨k, j, hk, rfl, rfl⟩ := hrel
    by_cases hlt : k < n
    · obtain ⟨x, hx⟩ : ∃ x, l[k]? = some x := ⟨l[k]'(by rw [HN.out]; exact hlt), List.getElem?_eq_getElem _⟩
      obtain ⟨b, o, rfl, hb, hc⟩ := H1.out (by rintro rfl; simp at hx)
      obtain ⟨b2, o2, rfl, hb2, hc2⟩ := H2.out (by rintro rfl; simp at hx)
      have c1 := hc k x hx
      have d1 := hc2 k x hx
      have t1 : decide ((k : Int) < (n : Int)) = true := by simp; omega
      clear hx hc hc2
      go_wp2_with fail
      go_quiet (fail)
      go_wp2_with fail
      go_roundw
      case rel => exact ⟨k + 1, _, by omega, by go_num, rfl⟩
      case measure => simp [intOf]; omega
    · obtain rfl : k = n := by omega
      have t1 : decide ((k : Int) < (k : Int)) = false := by simp
      go_wp2_with fail
      go_ret
      exact ⟨rfl, _, rfl⟩
set_option maxRecDepth 100000 in
set_option maxHeartbeats 1000000 in
theorem same15 {A A2 : Option Addr} {c c2 B : Nat} {L : List (Nat → Nat)} (w : World) (h : AdrsAt w B A L) (h2 : AdrsAt w B A2 L) (hs : ∀ y ∈ L, ∀ j, j < 16 → y j < 256) :
    Calls Tryz.prog 16 #[.slice A L.length c, .slice A2 L.length c2] w (SamePost true w) := by
  have HT := Lib.hid (same83 (c := c) (c2 := c2) w h h2 hs)
  obtain ⟨n, hn⟩ : ∃ n, L.length = n := ⟨_, rfl⟩
  rw [hn] at HT ⊢
  clear h h2 hs hn
  go_enter Tryz.func16, Tryz.ntmps16
  go_wp2_with fail
  refine (HT.out).mono ?_
  rintro e w1 ⟨rfl, j, rfl⟩
  go_wp2_with fail
  go_ret
  exact ⟨rfl, j, rfl⟩
set_option maxRecDepth 100000 in
set_option maxHeartbeats 1000000 in
theorem same19t {A A2 : Option Addr} {c c2 B : Nat} {l : List ByteArray} (w : World) (h : DomsAt w B A l) (h2 : DomsAt w B A2 l) :
    Calls Tryz.prog 17 #[.slice A l.length c, .slice A2 l.length c2] w (SamePost true w) := by
  have HT := Lib.hid (same84 (c := c) (c2 := c2) w h h2)
  obtain ⟨n, hn⟩ : ∃ n, l.length = n := ⟨_, rfl⟩
  rw [hn] at HT ⊢
  clear h h2 hn
  go_enter Tryz.func17, Tryz.ntmps17
  go_wp2_with fail
  refine (HT.out).mono ?_
  rintro e w1 ⟨rfl, j, rfl⟩
  go_wp2_with fail
  go_ret
  exact ⟨rfl, j, rfl⟩
theorem mac_same {y : Nat → Nat} (hy : ∀ j, j < 6 → y j < 256) (W : World) : (binOp .neq 28 (.agg #[.int .u8 (y 0 : Int), .int .u8 (y 1 : Int), .int .u8 (y 2 : Int), .int .u8 (y 3 : Int), .int .u8 (y 4 : Int), .int .u8 (y 5 : Int)]) (.agg #[.int .u8 (y 0 : Int), .int .u8 (y 1 : Int), .int .u8 (y 2 : Int), .int .u8 (y 3 : Int), .int .u8 (y 4 : Int), .int .u8 (y 5 : Int)])).run Tryz.prog W = .ok (.bool false) W := by
  have e : (#[.int .u8 (y 0 : Int), .int .u8 (y 1 : Int), .int .u8 (y 2 : Int), .int .u8 (y 3 : Int), .int .u8 (y 4 : Int), .int .u8 (y 5 : Int)] : Array Value) = (((List.range 6).map fun i => UInt8.ofNat (y i)).map Extern.Stop.cell).toArray := by
    rw [List.map_map]
    simp only [show List.range 6 = [0, 1, 2, 3, 4, 5] from rfl, List.map_cons, List.map_nil, Function.comp]
    rw [u8_cell (hy 0 (by decide)), u8_cell (hy 1 (by decide)), u8_cell (hy 2 (by decide)), u8_cell (hy 3 (by decide)), u8_cell (hy 4 (by decide)), u8_cell (hy 5 (by decide))]
  rw [e, run_neq_struct, run_equalIn_bytes W 9998 28 5 6 (by kernel_rfl) (by kernel_rfl) size5 _ _ (by simp) (by simp)]
  simp
theorem adr_eqIn {y : Nat → Nat} (hy : ∀ j, j < 16 → y j < 256) (d : Nat) (W : World) : (Op.equalIn (d + 2) 32 (.agg #[.int .u8 (y 0 : Int), .int .u8 (y 1 : Int), .int .u8 (y 2 : Int), .int .u8 (y 3 : Int), .int .u8 (y 4 : Int), .int .u8 (y 5 : Int), .int .u8 (y 6 : Int), .int .u8 (y 7 : Int), .int .u8 (y 8 : Int), .int .u8 (y 9 : Int), .int .u8 (y 10 : Int), .int .u8 (y 11 : Int), .int .u8 (y 12 : Int), .int .u8 (y 13 : Int), .int .u8 (y 14 : Int), .int .u8 (y 15 : Int)]) (.agg #[.int .u8 (y 0 : Int), .int .u8 (y 1 : Int), .int .u8 (y 2 : Int), .int .u8 (y 3 : Int), .int .u8 (y 4 : Int), .int .u8 (y 5 : Int), .int .u8 (y 6 : Int), .int .u8 (y 7 : Int), .int .u8 (y 8 : Int), .int .u8 (y 9 : Int), .int .u8 (y 10 : Int), .int .u8 (y 11 : Int), .int .u8 (y 12 : Int), .int .u8 (y 13 : Int), .int .u8 (y 14 : Int), .int .u8 (y 15 : Int)])).run Tryz.prog W = .ok true W := by
  have e : (#[.int .u8 (y 0 : Int), .int .u8 (y 1 : Int), .int .u8 (y 2 : Int), .int .u8 (y 3 : Int), .int .u8 (y 4 : Int), .int .u8 (y 5 : Int), .int .u8 (y 6 : Int), .int .u8 (y 7 : Int), .int .u8 (y 8 : Int), .int .u8 (y 9 : Int), .int .u8 (y 10 : Int), .int .u8 (y 11 : Int), .int .u8 (y 12 : Int), .int .u8 (y 13 : Int), .int .u8 (y 14 : Int), .int .u8 (y 15 : Int)] : Array Value) = (((List.range 16).map fun i => UInt8.ofNat (y i)).map Extern.Stop.cell).toArray := by
    rw [List.map_map]
    simp only [show List.range 16 = [0, 1, 2, 3, 4, 5, 6, 7, 8, 9, 10, 11, 12, 13, 14, 15] from rfl, List.map_cons, List.map_nil, Function.comp]
    rw [u8_cell (hy 0 (by decide)), u8_cell (hy 1 (by decide)), u8_cell (hy 2 (by decide)), u8_cell (hy 3 (by decide)), u8_cell (hy 4 (by decide)), u8_cell (hy 5 (by decide)), u8_cell (hy 6 (by decide)), u8_cell (hy 7 (by decide)), u8_cell (hy 8 (by decide)), u8_cell (hy 9 (by decide)), u8_cell (hy 10 (by decide)), u8_cell (hy 11 (by decide)), u8_cell (hy 12 (by decide)), u8_cell (hy 13 (by decide)), u8_cell (hy 14 (by decide)), u8_cell (hy 15 (by decide))]
  rw [e, run_equalIn_bytes W d 32 5 16 (by kernel_rfl) (by kernel_rfl) size5 _ _ (by simp) (by simp)]
  simp
end Go.Proofs.YtfolamkjlgpgmaaGreatDoor

/- Are two records the same: the walk. No condition. -/
namespace Go.Proofs.YtfolamkjlgpgmaaGreatDoor
open Go.RowKit
set_option linter.unusedVariables false
set_option linter.unusedSimpArgs false
set_option maxRecDepth 100000 in
set_option maxHeartbeats 1000000 in
theorem info_same {y : Nat → Nat} {b u z : Nat} {on auto : Bool} (hy : ∀ j, j < 16 → y j < 256) (W : World) : (binOp .neq 37 (.agg #[.int .u8 (y 0 : Int), .int .u8 (y 1 : Int), .int .u8 (y 2 : Int), .int .u8 (y 3 : Int), .int .u8 (y 4 : Int), .int .u8 (y 5 : Int), .int .u8 (y 6 : Int), .int .u8 (y 7 : Int), .int .u8 (y 8 : Int), .int .u8 (y 9 : Int), .int .u8 (y 10 : Int), .int .u8 (y 11 : Int), .int .u8 (y 12 : Int), .int .u8 (y 13 : Int), .int .u8 (y 14 : Int), .int .u8 (y 15 : Int), .int .u8 (b : Int), .bool on, .bool auto, .int .u32 (u : Int), .int .u32 (z : Int)]) (.agg #[.int .u8 (y 0 : Int), .int .u8 (y 1 : Int), .int .u8 (y 2 : Int), .int .u8 (y 3 : Int), .int .u8 (y 4 : Int), .int .u8 (y 5 : Int), .int .u8 (y 6 : Int), .int .u8 (y 7 : Int), .int .u8 (y 8 : Int), .int .u8 (y 9 : Int), .int .u8 (y 10 : Int), .int .u8 (y 11 : Int), .int .u8 (y 12 : Int), .int .u8 (y 13 : Int), .int .u8 (y 14 : Int), .int .u8 (y 15 : Int), .int .u8 (b : Int), .bool on, .bool auto, .int .u32 (u : Int), .int .u32 (z : Int)])).run Tryz.prog W = .ok (.bool false) W := by
  have hA := adr_eqIn hy
  have f30 : Tryz.prog.fieldsOf 37 = #[{ name := "Prefix", type := 34, offset := 0, embedded := false, tag := "", pkgPath := "", byteOffset := 0 }, { name := "OnLink", type := 4, offset := 17, embedded := false, tag := "", pkgPath := "", byteOffset := 17 }, { name := "Auto", type := 4, offset := 18, embedded := false, tag := "", pkgPath := "", byteOffset := 18 }, { name := "Valid", type := 35, offset := 19, embedded := false, tag := "", pkgPath := "", byteOffset := 20 }, { name := "Preferred", type := 35, offset := 20, embedded := false, tag := "", pkgPath := "", byteOffset := 24 }] := by kernel_rfl
  have f27 : Tryz.prog.fieldsOf 34 = #[{ name := "Addr", type := 32, offset := 0, embedded := false, tag := "", pkgPath := "", byteOffset := 0 }, { name := "Bits", type := 5, offset := 16, embedded := false, tag := "", pkgPath := "", byteOffset := 16 }] := by kernel_rfl
  have h27 : ∀ d xs ys, (Op.equalIn (d + 1) 34 (.agg xs) (.agg ys)).run Tryz.prog W = (Op.eqFields d xs ys (Tryz.prog.fieldsOf 34).toList).run Tryz.prog W := fun d xs ys => run_equalIn_agg W d 34 xs ys (by kernel_rfl) (by kernel_rfl)
  rw [run_neq_struct, run_equalIn_agg W 9999 37 _ _ (by kernel_rfl) (by kernel_rfl)]
  go_simp
end Go.Proofs.YtfolamkjlgpgmaaGreatDoor
