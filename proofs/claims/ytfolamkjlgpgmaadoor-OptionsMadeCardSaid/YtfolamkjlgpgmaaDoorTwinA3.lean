/- A twin of addresses; is it as it was made: the walks. No condition but that the addresses are few. (Printed by gTwinA3.py.) -/
import Derived.Test.YtfolamkjlgpgmaaDoorTwinA2
import Derived.Stop.BytesEq
namespace Go.Proofs.YtfolamkjlgpgmaaDoor
open Go.RowKit
set_option linter.unusedVariables false
set_option linter.unusedSimpArgs false
set_option maxRecDepth 100000 in
set_option maxHeartbeats 1000000 in
theorem twin27 {A : Option Addr} {c : Nat} {L : List (Nat → Nat)} (w : World) (h : AdrsAt w w.heap.size A L) :
    Calls Tryd.prog 27 #[.slice A L.length c] w (TwinAPost L w) := by
  have HO := Lib.hid (odd62 w)
  have HT : Hid (∀ W : World, Below w.heap.size w W → Calls Tryd.prog 61 #[.slice A L.length c, .agg #[.int .u8 1, .int .u8 2, .int .u8 3, .int .u8 0, .int .u8 0, .int .u8 0, .int .u8 0, .int .u8 0, .int .u8 0, .int .u8 0, .int .u8 0, .int .u8 0, .int .u8 0, .int .u8 0, .int .u8 0, .int .u8 201]] W (TwinAPost L W)) := Lib.hid fun W hW => twin61 W ((h.below hW).mono hW.size)
  obtain ⟨n, hn⟩ : ∃ n, L.length = n := ⟨_, rfl⟩
  rw [hn] at HT ⊢
  clear h hn
  go_enter Tryd.func27, Tryd.ntmps27
  go_wp2_with fail
  refine (HO.out).mono ?_
  rintro e w1 ⟨rfl, hb⟩
  have HB := Lib.hid hb
  clear hb HO
  unfold oddV
  go_wp2_with fail
  refine (HT.out _ HB.out).mono ?_
  rintro e w2 ⟨g, h0, rfl, h1, h2⟩
  have H1 := Lib.hid h1
  have H0 := Lib.hid h0
  have H2 := Lib.hid (HB.out.trans (h2.mono HB.out.size))
  have HS := Lib.hid HB.out.size
  clear h0 h1 h2 HT
  go_wp2_with fail
  go_ret
  exact ⟨g, Nat.le_trans HS.out H0.out, rfl, H1.out, H2.out⟩
theorem size5 (w : World) : (sizeOf 5).run Tryd.prog w = .ok 1 w := by
  obtain ⟨i, hi⟩ : ∃ i, Tryd.prog.info? 5 = some i := Option.isSome_iff_exists.1 (by kernel_rfl)
  have e : Tryd.prog.cellsOf 5 = 1 := by kernel_rfl
  rw [← e]
  exact run_sizeOf w hi
theorem u8_cell {x : Nat} (h : x < 256) : Value.int .u8 (x : Int) = Extern.Stop.cell (UInt8.ofNat x) := by
  simp [Extern.Stop.cell, Nat.mod_eq_of_lt h]
theorem adr_same {y : Nat → Nat} (hy : ∀ j, j < 16 → y j < 256) (W : World) : (binOp .neq 51 (.agg #[.int .u8 (y 0 : Int), .int .u8 (y 1 : Int), .int .u8 (y 2 : Int), .int .u8 (y 3 : Int), .int .u8 (y 4 : Int), .int .u8 (y 5 : Int), .int .u8 (y 6 : Int), .int .u8 (y 7 : Int), .int .u8 (y 8 : Int), .int .u8 (y 9 : Int), .int .u8 (y 10 : Int), .int .u8 (y 11 : Int), .int .u8 (y 12 : Int), .int .u8 (y 13 : Int), .int .u8 (y 14 : Int), .int .u8 (y 15 : Int)]) (.agg #[.int .u8 (y 0 : Int), .int .u8 (y 1 : Int), .int .u8 (y 2 : Int), .int .u8 (y 3 : Int), .int .u8 (y 4 : Int), .int .u8 (y 5 : Int), .int .u8 (y 6 : Int), .int .u8 (y 7 : Int), .int .u8 (y 8 : Int), .int .u8 (y 9 : Int), .int .u8 (y 10 : Int), .int .u8 (y 11 : Int), .int .u8 (y 12 : Int), .int .u8 (y 13 : Int), .int .u8 (y 14 : Int), .int .u8 (y 15 : Int)])).run Tryd.prog W = .ok (.bool false) W := by
  have e : (#[.int .u8 (y 0 : Int), .int .u8 (y 1 : Int), .int .u8 (y 2 : Int), .int .u8 (y 3 : Int), .int .u8 (y 4 : Int), .int .u8 (y 5 : Int), .int .u8 (y 6 : Int), .int .u8 (y 7 : Int), .int .u8 (y 8 : Int), .int .u8 (y 9 : Int), .int .u8 (y 10 : Int), .int .u8 (y 11 : Int), .int .u8 (y 12 : Int), .int .u8 (y 13 : Int), .int .u8 (y 14 : Int), .int .u8 (y 15 : Int)] : Array Value) = (((List.range 16).map fun i => UInt8.ofNat (y i)).map Extern.Stop.cell).toArray := by
    rw [List.map_map]
    simp only [show List.range 16 = [0, 1, 2, 3, 4, 5, 6, 7, 8, 9, 10, 11, 12, 13, 14, 15] from rfl, List.map_cons, List.map_nil, Function.comp]
    rw [u8_cell (hy 0 (by decide)), u8_cell (hy 1 (by decide)), u8_cell (hy 2 (by decide)), u8_cell (hy 3 (by decide)), u8_cell (hy 4 (by decide)), u8_cell (hy 5 (by decide)), u8_cell (hy 6 (by decide)), u8_cell (hy 7 (by decide)), u8_cell (hy 8 (by decide)), u8_cell (hy 9 (by decide)), u8_cell (hy 10 (by decide)), u8_cell (hy 11 (by decide)), u8_cell (hy 12 (by decide)), u8_cell (hy 13 (by decide)), u8_cell (hy 14 (by decide)), u8_cell (hy 15 (by decide))]
  rw [e, run_neq_struct, run_equalIn_bytes W 9998 51 5 16 (by kernel_rfl) (by kernel_rfl) size5 _ _ (by simp) (by simp)]
  simp
set_option maxRecDepth 100000 in
set_option maxHeartbeats 1000000 in
theorem same83 {A A2 : Option Addr} {c c2 B : Nat} {L : List (Nat → Nat)} (w : World) (h : AdrsAt w B A L) (h2 : AdrsAt w B A2 L) (hs : ∀ y ∈ L, ∀ j, j < 16 → y j < 256) :
    Calls Tryd.prog 83 #[.slice A L.length c, .slice A2 L.length c2] w (SamePost true w) := by
  have H1 := Lib.hid h.at_
  have H2 := Lib.hid h2.at_
  have hl := h.many
  obtain ⟨n, hn⟩ : ∃ n, L.length = n := ⟨_, rfl⟩
  have HN := Lib.hid hn
  have HSM := Lib.hid hs
  rw [hn] at hl ⊢
  clear h h2 hn hs
  go_enter Tryd.func83, Tryd.ntmps83
  go_wp2_with fail
  go_loopw [5] (fun i wr => ∃ k j : Nat, k ≤ n ∧ i = .int .i64 k ∧ wr = w.drewN j) (fun i _ => n - (intOf i).toNat)
  case atStart => exact ⟨0, 0, Nat.zero_le _, rfl, rfl⟩
  case round =>
    obtain ⟨k, j, hk, rfl, rfl⟩ := hrel
    by_cases hlt : k < n
    · obtain ⟨y, hy⟩ : ∃ y, L[k]? = some y := ⟨L[k]'(by rw [HN.out]; exact hlt), List.getElem?_eq_getElem _⟩
      obtain ⟨b, o, rfl, hb, hc⟩ := H1.out (by rintro rfl; simp at hy)
      obtain ⟨b2, o2, rfl, hb2, hc2⟩ := H2.out (by rintro rfl; simp at hy)
      have y0 := hc k y hy 0 (by decide)
      have z0 := hc2 k y hy 0 (by decide)
      have y1 := hc k y hy 1 (by decide)
      have z1 := hc2 k y hy 1 (by decide)
      have y2 := hc k y hy 2 (by decide)
      have z2 := hc2 k y hy 2 (by decide)
      have y3 := hc k y hy 3 (by decide)
      have z3 := hc2 k y hy 3 (by decide)
      have y4 := hc k y hy 4 (by decide)
      have z4 := hc2 k y hy 4 (by decide)
      have y5 := hc k y hy 5 (by decide)
      have z5 := hc2 k y hy 5 (by decide)
      have y6 := hc k y hy 6 (by decide)
      have z6 := hc2 k y hy 6 (by decide)
      have y7 := hc k y hy 7 (by decide)
      have z7 := hc2 k y hy 7 (by decide)
      have y8 := hc k y hy 8 (by decide)
      have z8 := hc2 k y hy 8 (by decide)
      have y9 := hc k y hy 9 (by decide)
      have z9 := hc2 k y hy 9 (by decide)
      have y10 := hc k y hy 10 (by decide)
      have z10 := hc2 k y hy 10 (by decide)
      have y11 := hc k y hy 11 (by decide)
      have z11 := hc2 k y hy 11 (by decide)
      have y12 := hc k y hy 12 (by decide)
      have z12 := hc2 k y hy 12 (by decide)
      have y13 := hc k y hy 13 (by decide)
      have z13 := hc2 k y hy 13 (by decide)
      have y14 := hc k y hy 14 (by decide)
      have z14 := hc2 k y hy 14 (by decide)
      have y15 := hc k y hy 15 (by decide)
      have z15 := hc2 k y hy 15 (by decide)
      rw [Nat.add_zero] at y0 z0
      have t1 : decide ((k : Int) < (n : Int)) = true := by simp; omega
      have hEQ := adr_same (HSM.out y (List.mem_of_getElem? hy))
      clear hy hc hc2
      go_wp2_with fail
      go_quiet (fail)
      go_wp2_with fail
      go_roundw
      case rel => exact ⟨k + 1, _, by omega, by go_num, rfl⟩
      case measure => simp [intOf]; omega
    · obtain rfl : k = n := by omega
      have t1 : decide ((k : Int) < (k : Int)) = false := by simp
      go_wp2_with fail
      go_ret
      exact ⟨rfl, _, rfl⟩
theorem twinA_at {w : World} {g B : Nat} {L : List (Nat → Nat)} (h : w.heap[g]? = some (.cells (rowA (twinA L)) 51 (0, 0))) (hm : L.length ≤ 1000000) (hB : g < B) : AdrsAt w B (some ⟨g, 0, none⟩) L := by
  refine ⟨fun _ => ⟨g, 0, rfl, hB, fun k y hy j hj => ?_⟩, hm⟩
  rw [Nat.zero_add, cell_blk h]
  exact rowA_get (by unfold twinA; rw [List.getElem?_append_left (List.getElem?_eq_some_iff.1 hy).1]; exact hy) hj
theorem twinA_room {w : World} {g i : Nat} {L : List (Nat → Nat)} (h : w.heap[g]? = some (.cells (rowA (twinA L)) 51 (0, 0))) (hi : i < 4) : ∀ j, j < 16 → w.cell? ⟨g, L.length * 16 + i * 16 + j, none⟩ = some (.int .u8 (strangeA j : Int)) := fun j hj => by
  rw [cell_blk h, ← Nat.add_mul]
  exact rowA_get (by unfold twinA; rw [List.getElem?_append_right (by omega), List.getElem?_replicate, if_pos (by omega)]) hj
set_option maxRecDepth 100000 in
set_option maxHeartbeats 1000000 in
theorem left72 {A : Option Addr} {c g : Nat} {L : List (Nat → Nat)} (w : World) (h : AdrsAt w w.heap.size A L) (hs : ∀ y ∈ L, ∀ j, j < 16 → y j < 256) (hg : w.heap[g]? = some (.cells (rowA (twinA L)) 51 (0, 0))) :
    Calls Tryd.prog 72 #[.slice (some ⟨g, 0, none⟩) L.length (L.length + 4), .slice A L.length c, .agg #[.int .u8 1, .int .u8 2, .int .u8 3, .int .u8 0, .int .u8 0, .int .u8 0, .int .u8 0, .int .u8 0, .int .u8 0, .int .u8 0, .int .u8 0, .int .u8 0, .int .u8 0, .int .u8 0, .int .u8 0, .int .u8 201]] w (fun e w' => e = .returned (.bool true) ∧ Below w.heap.size w w') := by
  have HS : Hid (∀ W : World, Below w.heap.size w W → Calls Tryd.prog 83 #[.slice (some ⟨g, 0, none⟩) L.length (L.length + 4), .slice A L.length c] W (SamePost true W)) := Lib.hid fun W hW =>
    same83 W (twinA_at ((hW.block g (lt_of_blk hg)).trans hg) h.many (lt_of_blk hg)) (h.below hW) hs
  have hl := h.many
  have HR := Lib.hid (fun (i : Nat) (hi : i < 4) => twinA_room (i := i) hg hi)
  have hgl := lt_of_blk hg
  obtain ⟨n, hn⟩ : ∃ n, L.length = n := ⟨_, rfl⟩
  rw [hn] at HS HR hl ⊢
  clear h hg hn
  have hcap : n < n + 4 := by omega
  obtain ⟨V, hV⟩ : ∃ V, V = w.alloc (.cells #[.int .u8 1, .int .u8 2, .int .u8 3, .int .u8 0, .int .u8 0, .int .u8 0, .int .u8 0, .int .u8 0, .int .u8 0, .int .u8 0, .int .u8 0, .int .u8 0, .int .u8 0, .int .u8 0, .int .u8 0, .int .u8 201] 51) := ⟨_, rfl⟩
  have hbx : V.heap[w.heap.size]? = some (.cells #[.int .u8 1, .int .u8 2, .int .u8 3, .int .u8 0, .int .u8 0, .int .u8 0, .int .u8 0, .int .u8 0, .int .u8 0, .int .u8 0, .int .u8 0, .int .u8 0, .int .u8 0, .int .u8 0, .int .u8 0, .int .u8 201] 51 (0, 0)) := by rw [hV, heap_alloc_new]
  have hBV : Below w.heap.size w V := by rw [hV]; exact (Below.refl _ _).alloc (Nat.le_refl _) _
  have HBX := Lib.hid hbx
  have HBV := Lib.hid hBV
  clear hbx hBV
  go_enter Tryd.func72, Tryd.ntmps72
  go_wp2_with fail
  rw [← hV]
  clear hV
  refine (HS.out V HBV.out).mono ?_
  rintro e w1 ⟨rfl, j, rfl⟩
  go_wp2_with fail
  go_loopw [8] (fun i wr => ∃ k j : Nat, k ≤ 4 ∧ i = .int .i64 k ∧ wr = V.drewN j) (fun i _ => 4 - (intOf i).toNat)
  case atStart => exact ⟨0, j, by omega, rfl, rfl⟩
  case round =>
    obtain ⟨k, j, hk, rfl, rfl⟩ := hrel
    by_cases hlt : k < 4
    · have c0 := HR.out k hlt
      have y0 : V.cell? ⟨g, n * 16 + k * 16 + 0, none⟩ = some (.int .u8 1) := (HBV.out.cell (p := ⟨g, n * 16 + k * 16 + 0, none⟩) hgl).trans (c0 0 (by decide))
      have b0 := cell_blk HBX.out 0
      have y1 : V.cell? ⟨g, n * 16 + k * 16 + 1, none⟩ = some (.int .u8 2) := (HBV.out.cell (p := ⟨g, n * 16 + k * 16 + 1, none⟩) hgl).trans (c0 1 (by decide))
      have b1 := cell_blk HBX.out 1
      have y2 : V.cell? ⟨g, n * 16 + k * 16 + 2, none⟩ = some (.int .u8 3) := (HBV.out.cell (p := ⟨g, n * 16 + k * 16 + 2, none⟩) hgl).trans (c0 2 (by decide))
      have b2 := cell_blk HBX.out 2
      have y3 : V.cell? ⟨g, n * 16 + k * 16 + 3, none⟩ = some (.int .u8 0) := (HBV.out.cell (p := ⟨g, n * 16 + k * 16 + 3, none⟩) hgl).trans (c0 3 (by decide))
      have b3 := cell_blk HBX.out 3
      have y4 : V.cell? ⟨g, n * 16 + k * 16 + 4, none⟩ = some (.int .u8 0) := (HBV.out.cell (p := ⟨g, n * 16 + k * 16 + 4, none⟩) hgl).trans (c0 4 (by decide))
      have b4 := cell_blk HBX.out 4
      have y5 : V.cell? ⟨g, n * 16 + k * 16 + 5, none⟩ = some (.int .u8 0) := (HBV.out.cell (p := ⟨g, n * 16 + k * 16 + 5, none⟩) hgl).trans (c0 5 (by decide))
      have b5 := cell_blk HBX.out 5
      have y6 : V.cell? ⟨g, n * 16 + k * 16 + 6, none⟩ = some (.int .u8 0) := (HBV.out.cell (p := ⟨g, n * 16 + k * 16 + 6, none⟩) hgl).trans (c0 6 (by decide))
      have b6 := cell_blk HBX.out 6
      have y7 : V.cell? ⟨g, n * 16 + k * 16 + 7, none⟩ = some (.int .u8 0) := (HBV.out.cell (p := ⟨g, n * 16 + k * 16 + 7, none⟩) hgl).trans (c0 7 (by decide))
      have b7 := cell_blk HBX.out 7
      have y8 : V.cell? ⟨g, n * 16 + k * 16 + 8, none⟩ = some (.int .u8 0) := (HBV.out.cell (p := ⟨g, n * 16 + k * 16 + 8, none⟩) hgl).trans (c0 8 (by decide))
      have b8 := cell_blk HBX.out 8
      have y9 : V.cell? ⟨g, n * 16 + k * 16 + 9, none⟩ = some (.int .u8 0) := (HBV.out.cell (p := ⟨g, n * 16 + k * 16 + 9, none⟩) hgl).trans (c0 9 (by decide))
      have b9 := cell_blk HBX.out 9
      have y10 : V.cell? ⟨g, n * 16 + k * 16 + 10, none⟩ = some (.int .u8 0) := (HBV.out.cell (p := ⟨g, n * 16 + k * 16 + 10, none⟩) hgl).trans (c0 10 (by decide))
      have b10 := cell_blk HBX.out 10
      have y11 : V.cell? ⟨g, n * 16 + k * 16 + 11, none⟩ = some (.int .u8 0) := (HBV.out.cell (p := ⟨g, n * 16 + k * 16 + 11, none⟩) hgl).trans (c0 11 (by decide))
      have b11 := cell_blk HBX.out 11
      have y12 : V.cell? ⟨g, n * 16 + k * 16 + 12, none⟩ = some (.int .u8 0) := (HBV.out.cell (p := ⟨g, n * 16 + k * 16 + 12, none⟩) hgl).trans (c0 12 (by decide))
      have b12 := cell_blk HBX.out 12
      have y13 : V.cell? ⟨g, n * 16 + k * 16 + 13, none⟩ = some (.int .u8 0) := (HBV.out.cell (p := ⟨g, n * 16 + k * 16 + 13, none⟩) hgl).trans (c0 13 (by decide))
      have b13 := cell_blk HBX.out 13
      have y14 : V.cell? ⟨g, n * 16 + k * 16 + 14, none⟩ = some (.int .u8 0) := (HBV.out.cell (p := ⟨g, n * 16 + k * 16 + 14, none⟩) hgl).trans (c0 14 (by decide))
      have b14 := cell_blk HBX.out 14
      have y15 : V.cell? ⟨g, n * 16 + k * 16 + 15, none⟩ = some (.int .u8 201) := (HBV.out.cell (p := ⟨g, n * 16 + k * 16 + 15, none⟩) hgl).trans (c0 15 (by decide))
      have b15 := cell_blk HBX.out 15
      rw [Nat.add_zero] at y0
      simp only [List.getElem?_toArray, List.getElem?_cons_zero, List.getElem?_cons_succ] at b0 b1 b2 b3 b4 b5 b6 b7 b8 b9 b10 b11 b12 b13 b14 b15
      have t1 : (k : Int) < 4 := by omega
      have hEQ : ∀ W : World, (binOp .neq 51 (.agg #[.int .u8 1, .int .u8 2, .int .u8 3, .int .u8 0, .int .u8 0, .int .u8 0, .int .u8 0, .int .u8 0, .int .u8 0, .int .u8 0, .int .u8 0, .int .u8 0, .int .u8 0, .int .u8 0, .int .u8 0, .int .u8 201]) (.agg #[.int .u8 1, .int .u8 2, .int .u8 3, .int .u8 0, .int .u8 0, .int .u8 0, .int .u8 0, .int .u8 0, .int .u8 0, .int .u8 0, .int .u8 0, .int .u8 0, .int .u8 0, .int .u8 0, .int .u8 0, .int .u8 201])).run Tryd.prog W = .ok (.bool false) W := fun W => adr_same (y := strangeA) (by decide) W
      clear c0
      go_wp2_with fail
      go_quiet (fail)
      go_wp2_with fail
      go_roundw
      case rel => exact ⟨k + 1, _, by omega, by go_num, rfl⟩
      case measure => simp [intOf]; omega
    · obtain rfl : k = 4 := by omega
      go_wp2_with fail
      go_ret
      exact ⟨rfl, HBV.out.trans (Below.drewN' _ _ _)⟩
set_option maxRecDepth 100000 in
set_option maxHeartbeats 1000000 in
theorem left43 {A : Option Addr} {c g : Nat} {L : List (Nat → Nat)} (w : World) (h : AdrsAt w w.heap.size A L) (hs : ∀ y ∈ L, ∀ j, j < 16 → y j < 256) (hg : w.heap[g]? = some (.cells (rowA (twinA L)) 51 (0, 0))) :
    Calls Tryd.prog 43 #[.slice (some ⟨g, 0, none⟩) L.length (L.length + 4), .slice A L.length c] w (fun e w' => e = .returned (.bool true) ∧ Below w.heap.size w w') := by
  have HO := Lib.hid (odd62 w)
  have HS : Hid (∀ W : World, Below w.heap.size w W → Calls Tryd.prog 72 #[.slice (some ⟨g, 0, none⟩) L.length (L.length + 4), .slice A L.length c, .agg #[.int .u8 1, .int .u8 2, .int .u8 3, .int .u8 0, .int .u8 0, .int .u8 0, .int .u8 0, .int .u8 0, .int .u8 0, .int .u8 0, .int .u8 0, .int .u8 0, .int .u8 0, .int .u8 0, .int .u8 0, .int .u8 201]] W (fun e w' => e = .returned (.bool true) ∧ Below W.heap.size W w')) := Lib.hid fun W hW =>
    left72 W ((h.below hW).mono hW.size) hs ((hW.block g (lt_of_blk hg)).trans hg)
  obtain ⟨n, hn⟩ : ∃ n, L.length = n := ⟨_, rfl⟩
  rw [hn] at HS ⊢
  clear h hg hn
  go_enter Tryd.func43, Tryd.ntmps43
  go_wp2_with fail
  refine (HO.out).mono ?_
  rintro e w1 ⟨rfl, hb⟩
  have HB := Lib.hid hb
  clear hb HO
  unfold oddV
  go_wp2_with fail
  refine (HS.out _ HB.out).mono ?_
  rintro e w2 ⟨rfl, hb⟩
  have H2 := Lib.hid (HB.out.trans (hb.mono HB.out.size))
  clear hb HS
  go_wp2_with fail
  go_ret
  exact ⟨rfl, H2.out⟩
end Go.Proofs.YtfolamkjlgpgmaaDoor
