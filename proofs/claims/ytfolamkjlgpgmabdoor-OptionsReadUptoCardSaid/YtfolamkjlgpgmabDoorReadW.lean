/- The walk of OptionsRead. No condition but that the parts read. (Printed by gReadW2.py.) -/
import Derived.Test.YtfolamkjlgpgmabDoorReadL
import Derived.Test.YtfolamkjlgpgmabDoorReadR
namespace Go.Proofs.YtfolamkjlgpgmabDoor
open Go.RowKit
set_option linter.unusedVariables false
set_option linter.unusedSimpArgs false
theorem mac_eqIn {m : Nat → Nat} (hy : ∀ j, j < 6 → m j < 256) (W : World) : (Op.equalIn 10000 23 (.agg #[.int .u8 (m 0 : Int), .int .u8 (m 1 : Int), .int .u8 (m 2 : Int), .int .u8 (m 3 : Int), .int .u8 (m 4 : Int), .int .u8 (m 5 : Int)]) (.agg #[.int .u8 (m 0 : Int), .int .u8 (m 1 : Int), .int .u8 (m 2 : Int), .int .u8 (m 3 : Int), .int .u8 (m 4 : Int), .int .u8 (m 5 : Int)])).run Tryd.prog W = .ok true W := by
  have e : (#[.int .u8 (m 0 : Int), .int .u8 (m 1 : Int), .int .u8 (m 2 : Int), .int .u8 (m 3 : Int), .int .u8 (m 4 : Int), .int .u8 (m 5 : Int)] : Array Value) = (((List.range 6).map fun i => UInt8.ofNat (m i)).map Extern.Stop.cell).toArray := by
    rw [List.map_map]
    simp only [show List.range 6 = [0, 1, 2, 3, 4, 5] from rfl, List.map_cons, List.map_nil, Function.comp]
    rw [u8_cell (hy 0 (by decide)), u8_cell (hy 1 (by decide)), u8_cell (hy 2 (by decide)), u8_cell (hy 3 (by decide)), u8_cell (hy 4 (by decide)), u8_cell (hy 5 (by decide))]
  rw [e, show (10000 : Nat) = 9998 + 2 from rfl, run_equalIn_bytes W 9998 23 5 6 (by kernel_rfl) (by kernel_rfl) size5 _ _ (by simp) (by simp)]
  simp
theorem size35 : (Tryd.prog.info? 35).map (·.size) = some 38 := by kernel_rfl
set_option maxRecDepth 100000 in
set_option maxHeartbeats 8000000 in
theorem optionsRead_walk {kp bits v p n bC sC dC nb ns nd : Nat} {m x q : Nat → Nat} {on auto : Bool} {bA sA dA : Option Addr} {kb : Bool} {S : List (Nat → Nat)} {D : List ByteArray} (w : World) (hv : v < 4294967296) (hp : p < 4294967296) (hn : n < 4294967296) (hm : ∀ j, j < 6 → m j < 256) (hx : ∀ j, j < 16 → x j < 256) (hbits : bits < 256)
    (hSat : S ≠ [] → ∃ b o, sA = some ⟨b, o, none⟩ ∧ b < w.heap.size ∧ ∀ i y, S[i]? = some y → ∀ j, j < 16 → w.cell? ⟨b, o + i * 16 + j, none⟩ = some (.int .u8 (y j : Int))) (hns : S.length = ns) (hsl : ns ≤ 1048576) (hS256 : ∀ y ∈ S, ∀ j, j < 16 → y j < 256)
    (hDat : D ≠ [] → ∃ b o, dA = some ⟨b, o, none⟩ ∧ b < w.heap.size ∧ ∀ i s, D[i]? = some s → w.cell? ⟨b, o + i, none⟩ = some (.string s)) (hnd : D.length = nd) (hdl : nd ≤ 1048576) (hDz : ∀ s ∈ D, s.size ≤ 1048576)
    (hmx : ∃ m : Int, w.cell? ⟨0, 0, none⟩ = some (.int .i64 m)) :
    Calls Tryd.prog 3 #[.agg #[.int .u8 (kp : Int), .int .u8 (m 0 : Int), .int .u8 (m 1 : Int), .int .u8 (m 2 : Int), .int .u8 (m 3 : Int), .int .u8 (m 4 : Int), .int .u8 (m 5 : Int), .int .u8 (x 0 : Int), .int .u8 (x 1 : Int), .int .u8 (x 2 : Int), .int .u8 (x 3 : Int), .int .u8 (x 4 : Int), .int .u8 (x 5 : Int), .int .u8 (x 6 : Int), .int .u8 (x 7 : Int), .int .u8 (x 8 : Int), .int .u8 (x 9 : Int), .int .u8 (x 10 : Int), .int .u8 (x 11 : Int), .int .u8 (x 12 : Int), .int .u8 (x 13 : Int), .int .u8 (x 14 : Int), .int .u8 (x 15 : Int), .int .u8 (bits : Int), .bool on, .bool auto, .int .u32 (v : Int), .int .u32 (p : Int), .slice bA nb bC, .int .u32 (n : Int), .int .u8 (q 0 : Int), .int .u8 (q 1 : Int), .int .u8 (q 2 : Int), .int .u8 (q 3 : Int), .int .u8 (q 4 : Int), .int .u8 (q 5 : Int), .slice sA ns sC, .slice dA nd dC], .bool kb] w fun e w' => e = .returned (.bool true) ∧ Below w.heap.size w w' := by
  obtain ⟨V, hV⟩ : ∃ V, V = w.alloc (.cells #[.int .u8 (kp : Int), .int .u8 (m 0 : Int), .int .u8 (m 1 : Int), .int .u8 (m 2 : Int), .int .u8 (m 3 : Int), .int .u8 (m 4 : Int), .int .u8 (m 5 : Int), .int .u8 (x 0 : Int), .int .u8 (x 1 : Int), .int .u8 (x 2 : Int), .int .u8 (x 3 : Int), .int .u8 (x 4 : Int), .int .u8 (x 5 : Int), .int .u8 (x 6 : Int), .int .u8 (x 7 : Int), .int .u8 (x 8 : Int), .int .u8 (x 9 : Int), .int .u8 (x 10 : Int), .int .u8 (x 11 : Int), .int .u8 (x 12 : Int), .int .u8 (x 13 : Int), .int .u8 (x 14 : Int), .int .u8 (x 15 : Int), .int .u8 (bits : Int), .bool on, .bool auto, .int .u32 (v : Int), .int .u32 (p : Int), .slice bA nb bC, .int .u32 (n : Int), .int .u8 (q 0 : Int), .int .u8 (q 1 : Int), .int .u8 (q 2 : Int), .int .u8 (q 3 : Int), .int .u8 (q 4 : Int), .int .u8 (q 5 : Int), .slice sA ns sC, .slice dA nd dC] 35) := ⟨_, rfl⟩
  obtain ⟨bx, ebx⟩ : ∃ bx, bx = w.heap.size := ⟨_, rfl⟩
  have hbx : V.heap[bx]? = some (.cells #[.int .u8 (kp : Int), .int .u8 (m 0 : Int), .int .u8 (m 1 : Int), .int .u8 (m 2 : Int), .int .u8 (m 3 : Int), .int .u8 (m 4 : Int), .int .u8 (m 5 : Int), .int .u8 (x 0 : Int), .int .u8 (x 1 : Int), .int .u8 (x 2 : Int), .int .u8 (x 3 : Int), .int .u8 (x 4 : Int), .int .u8 (x 5 : Int), .int .u8 (x 6 : Int), .int .u8 (x 7 : Int), .int .u8 (x 8 : Int), .int .u8 (x 9 : Int), .int .u8 (x 10 : Int), .int .u8 (x 11 : Int), .int .u8 (x 12 : Int), .int .u8 (x 13 : Int), .int .u8 (x 14 : Int), .int .u8 (x 15 : Int), .int .u8 (bits : Int), .bool on, .bool auto, .int .u32 (v : Int), .int .u32 (p : Int), .slice bA nb bC, .int .u32 (n : Int), .int .u8 (q 0 : Int), .int .u8 (q 1 : Int), .int .u8 (q 2 : Int), .int .u8 (q 3 : Int), .int .u8 (q 4 : Int), .int .u8 (q 5 : Int), .slice sA ns sC, .slice dA nd dC] 35 (0, 0)) := by rw [hV, ebx, heap_alloc_new]
  have hBV : Below w.heap.size w V := by rw [hV]; exact (Below.refl _ _).alloc (Nat.le_refl _) _
  have HBX := Lib.hid hbx; have HW := Lib.hid hBV; have HBXW := Lib.hid ebx
  obtain ⟨i9, hi, hz0, hz1, hz2⟩ := info_parts info9'
  have HSAT := Lib.hid hSat; have HNS := Lib.hid hns; have HSL := Lib.hid hsl; have HS256 := Lib.hid hS256; have HDAT := Lib.hid hDat; have HND := Lib.hid hnd; have HDL := Lib.hid hdl; have HDZ := Lib.hid hDz; have HMX := Lib.hid hmx
  have HV := Lib.hid hv; have HP := Lib.hid hp; have HN := Lib.hid hn; have HMB := Lib.hid hm; have HXB := Lib.hid hx; have HBB := Lib.hid hbits
  clear hbx hBV hv hp hn hSat hns hsl hS256 hDat hnd hdl hDz hm hx hbits hmx
  have HS23 : Hid ((Tryd.prog.info? 23).map (·.size) = some (#[.int .u8 (m 0 : Int), .int .u8 (m 1 : Int), .int .u8 (m 2 : Int), .int .u8 (m 3 : Int), .int .u8 (m 4 : Int), .int .u8 (m 5 : Int)] : Array Value).size) := Lib.hid size49
  have HC23 : Hid ((#[.int .u8 (m 0 : Int), .int .u8 (m 1 : Int), .int .u8 (m 2 : Int), .int .u8 (m 3 : Int), .int .u8 (m 4 : Int), .int .u8 (m 5 : Int)] : Array Value).all (·.oneCell') = true) := Lib.hid (by simp [Value.oneCell'])
  obtain ⟨G, hG⟩ : ∃ G : Array Value, G = (if bits ≤ 128 then #[.int .u8 (masked x bits 0 : Int), .int .u8 (masked x bits 1 : Int), .int .u8 (masked x bits 2 : Int), .int .u8 (masked x bits 3 : Int), .int .u8 (masked x bits 4 : Int), .int .u8 (masked x bits 5 : Int), .int .u8 (masked x bits 6 : Int), .int .u8 (masked x bits 7 : Int), .int .u8 (masked x bits 8 : Int), .int .u8 (masked x bits 9 : Int), .int .u8 (masked x bits 10 : Int), .int .u8 (masked x bits 11 : Int), .int .u8 (masked x bits 12 : Int), .int .u8 (masked x bits 13 : Int), .int .u8 (masked x bits 14 : Int), .int .u8 (masked x bits 15 : Int), .int .u8 (bits : Int), .bool on, .bool auto, .int .u32 (v : Int), .int .u32 (p : Int)] else #[.int .u8 0, .int .u8 0, .int .u8 0, .int .u8 0, .int .u8 0, .int .u8 0, .int .u8 0, .int .u8 0, .int .u8 0, .int .u8 0, .int .u8 0, .int .u8 0, .int .u8 0, .int .u8 0, .int .u8 0, .int .u8 0, .int .u8 0, .bool false, .bool false, .int .u32 0, .int .u32 0]) := ⟨_, rfl⟩
  obtain ⟨d, hd⟩ : ∃ d : Bool, d = decide (bits ≤ 128) := ⟨_, rfl⟩
  have hgz : G.size = 21 := by rw [hG]; split <;> rfl
  have hg1 : G.all (·.oneCell') = true := by rw [hG]; split <;> simp [Value.oneCell']
  have HSG : Hid ((Tryd.prog.info? 30).map (·.size) = some G.size) := Lib.hid (by rw [hgz]; exact size56)
  have HG1 := Lib.hid hg1; have HGZ := Lib.hid hgz; have HGE := Lib.hid hG; have HDE := Lib.hid hd
  clear hgz hg1 hG hd
  go_enter Tryd.func3, Tryd.ntmps3
  go_upto_region 1 with (fail)
  rw [← hV, ← ebx]
  clear hV ebx
  go_upto_if 21 with (fail)
  go_cut [5] (fun u wx => ∃ kd : Nat, (kd = 1 ∨ kd = 2) ∧ u = .int .u8 (kd : Int) ∧ V = wx)
  case first =>
    cases kb
    · go_wp2_with fail
      go_meet
      case rel => exact ⟨1, .inl rfl, rfl, rfl⟩
    · go_wp2_with fail
      go_meet
      case rel => exact ⟨2, .inr rfl, rfl, rfl⟩
  case rest =>
    obtain ⟨kd, hkd, rfl, rfl⟩ := hcut
    have HKD := Lib.hid hkd
    clear hkd
    have HB := Lib.hid (Below.refl V.heap.size V)
    have HMK := Lib.hid (link29 kd (m 0) (m 1) (m 2) (m 3) (m 4) (m 5) V)
    have rr := mid_at (W := V) [.int .u8 (kp : Int)] [.int .u8 (m 0 : Int), .int .u8 (m 1 : Int), .int .u8 (m 2 : Int), .int .u8 (m 3 : Int), .int .u8 (m 4 : Int), .int .u8 (m 5 : Int)] [.int .u8 (x 0 : Int), .int .u8 (x 1 : Int), .int .u8 (x 2 : Int), .int .u8 (x 3 : Int), .int .u8 (x 4 : Int), .int .u8 (x 5 : Int), .int .u8 (x 6 : Int), .int .u8 (x 7 : Int), .int .u8 (x 8 : Int), .int .u8 (x 9 : Int), .int .u8 (x 10 : Int), .int .u8 (x 11 : Int), .int .u8 (x 12 : Int), .int .u8 (x 13 : Int), .int .u8 (x 14 : Int), .int .u8 (x 15 : Int), .int .u8 (bits : Int), .bool on, .bool auto, .int .u32 (v : Int), .int .u32 (p : Int), .slice bA nb bC, .int .u32 (n : Int), .int .u8 (q 0 : Int), .int .u8 (q 1 : Int), .int .u8 (q 2 : Int), .int .u8 (q 3 : Int), .int .u8 (q 4 : Int), .int .u8 (q 5 : Int), .slice sA ns sC, .slice dA nd dC] HBX.out
    have RR := Lib.hid rr
    clear rr
    go_wp2_with (refine wpList_load_mid rfl 23 _ rfl bx 1 rfl [.int .u8 (m 0 : Int), .int .u8 (m 1 : Int), .int .u8 (m 2 : Int), .int .u8 (m 3 : Int), .int .u8 (m 4 : Int), .int .u8 (m 5 : Int)] _ RR.out Tryd.underlying23 rfl size49 ?_)
    clear RR
    refine (HMK.out).mono ?_
    intro e wa hm
    obtain ⟨Aa, ca, na, rfl, hba, hag⟩ := made_again hm (by rcases HKD.out with rfl | rfl <;> decide) (by show 6 ≤ 2038; decide) (m6_bytes HMB.out)
    have HAG := Lib.hid hag
    have HBa := Lib.hid (HB.out.trans hba)
    clear hm hba hag HMK HB
    go_wp2_with fail
    refine (HAG.out).mono ?_
    rintro e wb ⟨Ab, rfl, hbs, hbb⟩
    have HBb := Lib.hid (HBa.out.trans (hbb.mono HBa.out.size))
    have HRD := Lib.hid (read_mac HKD.out hbs)
    clear hbs hbb HAG HBa
    go_wp2_with fail
    refine (HRD.out).mono ?_
    rintro e wc ⟨rfl, hbc⟩
    have HB := Lib.hid (HBb.out.trans (hbc.mono HBb.out.size))
    clear hbc HRD HBb
    have hn3 := heap_alloc_new wc (.cells #[.int .u8 0, .int .u8 0, .int .u8 0, .int .u8 0, .int .u8 0, .int .u8 0] 23)
    have hb3 : Below wc.heap.size wc (wc.alloc (.cells #[.int .u8 0, .int .u8 0, .int .u8 0, .int .u8 0, .int .u8 0, .int .u8 0] 23)) := (Below.refl _ _).alloc (Nat.le_refl _) _
    have t3 := Turned.setRow hn3 #[.int .u8 (m 0 : Int), .int .u8 (m 1 : Int), .int .u8 (m 2 : Int), .int .u8 (m 3 : Int), .int .u8 (m 4 : Int), .int .u8 (m 5 : Int)]
    have HN3 := Lib.hid hn3
    have HT4 := Lib.hid (t3.get (lt_of_blk hn3))
    have HPH := Lib.hid (HB.out.trans ((hb3.trans (t3.below (Nat.le_refl _))).mono HB.out.size))
    have HL4 := Lib.hid (Nat.le_trans HW.out.size HB.out.size)
    clear hn3 hb3 t3 HB
    go_upto_region 5 with (refine wpList_store_row rfl 23 _ _ rfl wc.heap.size #[.int .u8 (m 0 : Int), .int .u8 (m 1 : Int), .int .u8 (m 2 : Int), .int .u8 (m 3 : Int), .int .u8 (m 4 : Int), .int .u8 (m 5 : Int)] rfl rfl 23 _ HN3.out HS23.out ?hold HC23.out ?_)
    case hold => rfl
    obtain ⟨W4, hW⟩ : ∃ W, W = (wc.alloc (.cells #[.int .u8 0, .int .u8 0, .int .u8 0, .int .u8 0, .int .u8 0, .int .u8 0] 23)).setRow wc.heap.size #[.int .u8 (m 0 : Int), .int .u8 (m 1 : Int), .int .u8 (m 2 : Int), .int .u8 (m 3 : Int), .int .u8 (m 4 : Int), .int .u8 (m 5 : Int)] := ⟨_, rfl⟩
    obtain ⟨a4, hb⟩ : ∃ b, b = wc.heap.size := ⟨_, rfl⟩
    rw [← hW] at HT4 HPH ⊢
    rw [← hb] at HT4 HL4 ⊢
    clear hW HN3 hb
    have HBXn := Lib.hid ((HPH.out.block _ (lt_of_blk HBX.out)).trans HBX.out)
    clear HBX
    have HBX := HBXn
    clear HBXn
    have HWn := Lib.hid (HW.out.trans (HPH.out.mono HW.out.size))
    clear HW
    have HW := HWn
    clear HWn
    clear HPH
    have HB := Lib.hid (Below.refl W4.heap.size W4)
    have HMK := Lib.hid (info30 x bits v p on auto HV.out HP.out W4)
    have rr := mid_at (W := W4) [.int .u8 (kp : Int), .int .u8 (m 0 : Int), .int .u8 (m 1 : Int), .int .u8 (m 2 : Int), .int .u8 (m 3 : Int), .int .u8 (m 4 : Int), .int .u8 (m 5 : Int)] [.int .u8 (x 0 : Int), .int .u8 (x 1 : Int), .int .u8 (x 2 : Int), .int .u8 (x 3 : Int), .int .u8 (x 4 : Int), .int .u8 (x 5 : Int), .int .u8 (x 6 : Int), .int .u8 (x 7 : Int), .int .u8 (x 8 : Int), .int .u8 (x 9 : Int), .int .u8 (x 10 : Int), .int .u8 (x 11 : Int), .int .u8 (x 12 : Int), .int .u8 (x 13 : Int), .int .u8 (x 14 : Int), .int .u8 (x 15 : Int), .int .u8 (bits : Int), .bool on, .bool auto, .int .u32 (v : Int), .int .u32 (p : Int)] [.slice bA nb bC, .int .u32 (n : Int), .int .u8 (q 0 : Int), .int .u8 (q 1 : Int), .int .u8 (q 2 : Int), .int .u8 (q 3 : Int), .int .u8 (q 4 : Int), .int .u8 (q 5 : Int), .slice sA ns sC, .slice dA nd dC] HBX.out
    have RR := Lib.hid rr
    clear rr
    go_wp2_with (refine wpList_load_mid rfl 30 _ rfl bx 7 rfl [.int .u8 (x 0 : Int), .int .u8 (x 1 : Int), .int .u8 (x 2 : Int), .int .u8 (x 3 : Int), .int .u8 (x 4 : Int), .int .u8 (x 5 : Int), .int .u8 (x 6 : Int), .int .u8 (x 7 : Int), .int .u8 (x 8 : Int), .int .u8 (x 9 : Int), .int .u8 (x 10 : Int), .int .u8 (x 11 : Int), .int .u8 (x 12 : Int), .int .u8 (x 13 : Int), .int .u8 (x 14 : Int), .int .u8 (x 15 : Int), .int .u8 (bits : Int), .bool on, .bool auto, .int .u32 (v : Int), .int .u32 (p : Int)] _ RR.out Tryd.underlying30 rfl size56 ?_)
    clear RR
    refine (HMK.out).mono ?_
    intro e wa hm
    obtain ⟨Aa, ca, na, rfl, hba, hag⟩ := made_again hm (by decide) (by show 30 ≤ 2038; decide) (info_bytes HXB.out HBB.out)
    have HAG := Lib.hid hag
    have HBa := Lib.hid (HB.out.trans hba)
    clear hm hba hag HMK HB
    go_wp2_with fail
    refine (HAG.out).mono ?_
    rintro e wb ⟨Ab, rfl, hbs, hbb⟩
    have HBb := Lib.hid (HBa.out.trans (hbb.mono HBa.out.size))
    have HRD := Lib.hid (read_pre HV.out HP.out (info_bytes HXB.out HBB.out) hbs)
    clear hbs hbb HAG HBa
    rw [← HGE.out, ← HDE.out] at HRD
    go_wp2_with fail
    refine (HRD.out).mono ?_
    rintro e wc ⟨rfl, hbc⟩
    have HB := Lib.hid (HBb.out.trans (hbc.mono HBb.out.size))
    clear hbc HRD HBb
    have hn3 := heap_alloc_new wc (.cells #[.int .u8 0, .int .u8 0, .int .u8 0, .int .u8 0, .int .u8 0, .int .u8 0, .int .u8 0, .int .u8 0, .int .u8 0, .int .u8 0, .int .u8 0, .int .u8 0, .int .u8 0, .int .u8 0, .int .u8 0, .int .u8 0, .int .u8 0, .bool false, .bool false, .int .u32 0, .int .u32 0] 30)
    have hb3 : Below wc.heap.size wc (wc.alloc (.cells #[.int .u8 0, .int .u8 0, .int .u8 0, .int .u8 0, .int .u8 0, .int .u8 0, .int .u8 0, .int .u8 0, .int .u8 0, .int .u8 0, .int .u8 0, .int .u8 0, .int .u8 0, .int .u8 0, .int .u8 0, .int .u8 0, .int .u8 0, .bool false, .bool false, .int .u32 0, .int .u32 0] 30)) := (Below.refl _ _).alloc (Nat.le_refl _) _
    have t3 := Turned.setRow hn3 G
    have HN3 := Lib.hid hn3
    have HT5 := Lib.hid (t3.get (lt_of_blk hn3))
    have HPH := Lib.hid (HB.out.trans ((hb3.trans (t3.below (Nat.le_refl _))).mono HB.out.size))
    have HL5 := Lib.hid (Nat.le_trans HW.out.size HB.out.size)
    clear hn3 hb3 t3 HB
    go_upto_region 6 with (refine wpList_store_row rfl 30 _ _ rfl wc.heap.size G rfl rfl 30 _ HN3.out HSG.out ?hold HG1.out ?_)
    case hold => rw [HGZ.out]; rfl
    obtain ⟨W5, hW⟩ : ∃ W, W = (wc.alloc (.cells #[.int .u8 0, .int .u8 0, .int .u8 0, .int .u8 0, .int .u8 0, .int .u8 0, .int .u8 0, .int .u8 0, .int .u8 0, .int .u8 0, .int .u8 0, .int .u8 0, .int .u8 0, .int .u8 0, .int .u8 0, .int .u8 0, .int .u8 0, .bool false, .bool false, .int .u32 0, .int .u32 0] 30)).setRow wc.heap.size G := ⟨_, rfl⟩
    obtain ⟨a5, hb⟩ : ∃ b, b = wc.heap.size := ⟨_, rfl⟩
    rw [← hW] at HT5 HPH ⊢
    rw [← hb] at HT5 HL5 ⊢
    clear hW HN3 hb
    have HBXn := Lib.hid ((HPH.out.block _ (lt_of_blk HBX.out)).trans HBX.out)
    clear HBX
    have HBX := HBXn
    clear HBXn
    have HWn := Lib.hid (HW.out.trans (HPH.out.mono HW.out.size))
    clear HW
    have HW := HWn
    clear HWn
    have HT4n := Lib.hid ((HPH.out.block _ (lt_of_blk HT4.out)).trans HT4.out)
    clear HT4
    have HT4 := HT4n
    clear HT4n
    clear HPH
    have c29 : W5.cell? ⟨bx, 29, none⟩ = some (.int .u32 (n : Int)) := (cell_blk HBX.out 29).trans rfl
    have HB := Lib.hid (Below.refl W5.heap.size W5)
    have HMK := Lib.hid (mtu32 n HN.out W5)
    go_wp2_with fail
    clear c29
    refine (HMK.out).mono ?_
    intro e wa hm
    obtain ⟨Aa, ca, na, rfl, hba, hag⟩ := made_again hm (by decide) (by show 6 ≤ 2038; decide) (mtu_bytes n)
    have HAG := Lib.hid hag
    have HBa := Lib.hid (HB.out.trans hba)
    clear hm hba hag HMK HB
    go_wp2_with fail
    refine (HAG.out).mono ?_
    rintro e wb ⟨Ab, rfl, hbs, hbb⟩
    have HBb := Lib.hid (HBa.out.trans (hbb.mono HBa.out.size))
    have HRD := Lib.hid (read_mtu HN.out (mtu_bytes n) hbs)
    clear hbs hbb HAG HBa
    go_wp2_with fail
    refine (HRD.out).mono ?_
    rintro e wc ⟨rfl, hbc⟩
    have HB := Lib.hid (HBb.out.trans (hbc.mono HBb.out.size))
    clear hbc HRD HBb
    have HPH := HB
    clear HB
    have HBXn := Lib.hid ((HPH.out.block _ (lt_of_blk HBX.out)).trans HBX.out)
    clear HBX
    have HBX := HBXn
    clear HBXn
    have HWn := Lib.hid (HW.out.trans (HPH.out.mono HW.out.size))
    clear HW
    have HW := HWn
    clear HWn
    have HT4n := Lib.hid ((HPH.out.block _ (lt_of_blk HT4.out)).trans HT4.out)
    clear HT4
    have HT4 := HT4n
    clear HT4n
    have HT5n := Lib.hid ((HPH.out.block _ (lt_of_blk HT5.out)).trans HT5.out)
    clear HT5
    have HT5 := HT5n
    clear HT5n
    clear HPH
    go_upto_region 7 with (fail)
    have hEQ := mac_eqIn HMB.out wc
    have rr := mid_at (W := wc) [.int .u8 (kp : Int)] [.int .u8 (m 0 : Int), .int .u8 (m 1 : Int), .int .u8 (m 2 : Int), .int .u8 (m 3 : Int), .int .u8 (m 4 : Int), .int .u8 (m 5 : Int)] [.int .u8 (x 0 : Int), .int .u8 (x 1 : Int), .int .u8 (x 2 : Int), .int .u8 (x 3 : Int), .int .u8 (x 4 : Int), .int .u8 (x 5 : Int), .int .u8 (x 6 : Int), .int .u8 (x 7 : Int), .int .u8 (x 8 : Int), .int .u8 (x 9 : Int), .int .u8 (x 10 : Int), .int .u8 (x 11 : Int), .int .u8 (x 12 : Int), .int .u8 (x 13 : Int), .int .u8 (x 14 : Int), .int .u8 (x 15 : Int), .int .u8 (bits : Int), .bool on, .bool auto, .int .u32 (v : Int), .int .u32 (p : Int), .slice bA nb bC, .int .u32 (n : Int), .int .u8 (q 0 : Int), .int .u8 (q 1 : Int), .int .u8 (q 2 : Int), .int .u8 (q 3 : Int), .int .u8 (q 4 : Int), .int .u8 (q 5 : Int), .slice sA ns sC, .slice dA nd dC] HBX.out
    have RR := Lib.hid rr
    have c29 : wc.cell? ⟨bx, 29, none⟩ = some (.int .u32 (n : Int)) := (cell_blk HBX.out 29).trans rfl
    have c23 : wc.cell? ⟨bx, 23, none⟩ = some (.int .u8 (bits : Int)) := (cell_blk HBX.out 23).trans rfl
    clear rr
    have t8 : decide ((bits : Int) ≤ 128) = d := by
      rw [HDE.out]
      exact decide_eq_decide.2 (by omega)
    go_upto_if 74 with (first | (refine wpList_load_row rfl 23 _ rfl a4 rfl 23 _ (0, 0) _ HT4.out Tryd.underlying23 rfl HS23.out ?_) | (refine wpList_load_mid rfl 23 _ rfl bx 1 rfl [.int .u8 (m 0 : Int), .int .u8 (m 1 : Int), .int .u8 (m 2 : Int), .int .u8 (m 3 : Int), .int .u8 (m 4 : Int), .int .u8 (m 5 : Int)] _ RR.out Tryd.underlying23 rfl size49 ?_))
    clear c29 c23 hEQ RR t8
    go_cut [12] (fun v12 wx => wx.heap[bx]? = some (.cells #[.int .u8 (kp : Int), .int .u8 (m 0 : Int), .int .u8 (m 1 : Int), .int .u8 (m 2 : Int), .int .u8 (m 3 : Int), .int .u8 (m 4 : Int), .int .u8 (m 5 : Int), .int .u8 (x 0 : Int), .int .u8 (x 1 : Int), .int .u8 (x 2 : Int), .int .u8 (x 3 : Int), .int .u8 (x 4 : Int), .int .u8 (x 5 : Int), .int .u8 (x 6 : Int), .int .u8 (x 7 : Int), .int .u8 (x 8 : Int), .int .u8 (x 9 : Int), .int .u8 (x 10 : Int), .int .u8 (x 11 : Int), .int .u8 (x 12 : Int), .int .u8 (x 13 : Int), .int .u8 (x 14 : Int), .int .u8 (x 15 : Int), .int .u8 (bits : Int), .bool on, .bool auto, .int .u32 (v : Int), .int .u32 (p : Int), .slice bA nb bC, .int .u32 (n : Int), .int .u8 (q 0 : Int), .int .u8 (q 1 : Int), .int .u8 (q 2 : Int), .int .u8 (q 3 : Int), .int .u8 (q 4 : Int), .int .u8 (q 5 : Int), .slice sA ns sC, .slice dA nd dC] 35 (0, 0)) ∧ Below w.heap.size w wx)
    case first =>
      cases d with
      | true =>
        have hb8 : bits ≤ 128 := by have := HDE.out; simpa using this.symm
        have HG2 : G = #[.int .u8 (masked x bits 0 : Int), .int .u8 (masked x bits 1 : Int), .int .u8 (masked x bits 2 : Int), .int .u8 (masked x bits 3 : Int), .int .u8 (masked x bits 4 : Int), .int .u8 (masked x bits 5 : Int), .int .u8 (masked x bits 6 : Int), .int .u8 (masked x bits 7 : Int), .int .u8 (masked x bits 8 : Int), .int .u8 (masked x bits 9 : Int), .int .u8 (masked x bits 10 : Int), .int .u8 (masked x bits 11 : Int), .int .u8 (masked x bits 12 : Int), .int .u8 (masked x bits 13 : Int), .int .u8 (masked x bits 14 : Int), .int .u8 (masked x bits 15 : Int), .int .u8 (bits : Int), .bool on, .bool auto, .int .u32 (v : Int), .int .u32 (p : Int)] := by rw [HGE.out, if_pos hb8]
        refine regIfT HBX.out (by rw [← HG2]; exact HT5.out) HXB.out HBB.out ?_
        intro r12 r75 r76 r77 r78 r79 r80 r81 r82 r83 r84 r85 r86 r87 r88 W6 hb6
        go_wp2_with fail
        go_meet
        case rel => exact ⟨(hb6.block _ (lt_of_blk HBX.out)).trans HBX.out, HW.out.trans (hb6.mono HW.out.size)⟩
      | false =>
        go_wp2_with fail
        go_meet
        case rel => exact ⟨HBX.out, HW.out⟩
    case rest =>
      obtain ⟨hbx7, hw7⟩ := hcut
      clear HBX HW HT4 HT5 HSG HG1 HGZ HGE HDE HS23 HC23
      have HBX := Lib.hid hbx7; have HW := Lib.hid hw7
      clear hbx7 hw7
      have c36 : wc.cell? ⟨bx, 36, none⟩ = some (.slice sA ns sC) := (cell_blk HBX.out 36).trans rfl
      have c37 : wc.cell? ⟨bx, 37, none⟩ = some (.slice dA nd dC) := (cell_blk HBX.out 37).trans rfl
      by_cases h100 : 100 < ns
      · have t1 : (100 : Int) < (ns : Int) := by omega
        have HVL := Lib.hid (lives8 wc)
        go_wp2_with fail
        refine (HVL.out).mono ?_
        rintro e w9 ⟨rfl, hb9⟩
        have HB9 := Lib.hid (HW.out.trans (hb9.mono HW.out.size))
        clear hb9 HVL
        go_wp2_with fail
        go_ret
        exact ⟨rfl, HB9.out⟩
      · have t1 : ¬ (100 : Int) < (ns : Int) := by omega
        by_cases h7 : 7 < nd
        · have t2 : (7 : Int) < (nd : Int) := by omega
          have HVL := Lib.hid (lives8 wc)
          go_wp2_with fail
          refine (HVL.out).mono ?_
          rintro e w9 ⟨rfl, hb9⟩
          have HB9 := Lib.hid (HW.out.trans (hb9.mono HW.out.size))
          clear hb9 HVL
          go_wp2_with fail
          go_ret
          exact ⟨rfl, HB9.out⟩
        · have t2 : ¬ (7 : Int) < (nd : Int) := by omega
          have HS100 : Hid (S.length ≤ 100) := Lib.hid (by rw [HNS.out]; omega)
          have HD7 : Hid (D.length ≤ 7) := Lib.hid (by rw [HND.out]; omega)
          have HSA : Hid (AdrsAt w w.heap.size sA S) := Lib.hid ⟨HSAT.out, by have := HS100.out; omega⟩
          have HDA : Hid (DomsAt w w.heap.size dA D) := Lib.hid ⟨HDAT.out, HDZ.out, by have := HD7.out; omega⟩
          clear h100 h7
          go_upto_region 16 with (fail)
          clear c36 c37 t1 t2
          refine regR16 HBX.out HN.out ((HSA.out.below HW.out).mono HW.out.size) HNS.out HS100.out HS256.out ?_
          intro X V9 r r100 r101 r102 r103 r104 r105 r106 r107 r108 r109 r110 W16 hr hb16
          have HBX16 := Lib.hid ((hb16.block _ (lt_of_blk HBX.out)).trans HBX.out)
          have HW16 := Lib.hid (HW.out.trans (hb16.mono HW.out.size))
          have HR := Lib.hid hr
          clear hr hb16 HBX HW
          go_upto_region 17 with (fail)
          refine regR17 HBX16.out HR.out ((HSA.out.below HW16.out).mono HW16.out.size) HNS.out HS256.out ?_
          intro r111 r112 r113 r114 r115 r116 r117 r118 r119 r120 r121 r122 r123 r124 r125 r126 r127 r128 r129 r130 r131 W17 hb17
          have HBX17 := Lib.hid ((hb17.block _ (lt_of_blk HBX16.out)).trans HBX16.out)
          have HW17 := Lib.hid (HW16.out.trans (hb17.mono HW16.out.size))
          clear hb17 HBX16 HW16 HR
          go_wp2_with fail
          go_loopw [16, 17] (fun v16 v17 wr => ∃ (k : Nat) (A : Option Addr) (c : Nat), k ≤ nd ∧ v17 = .int .i64 (k : Int) ∧ v16 = .slice A (okN (D.take k)).length c ∧ wr.ownsRow (bx + 1) 9 1 (.slice A (okN (D.take k)).length c) (okN (D.take k)).length ((okN (D.take k)).map Value.string) ∧ wr.heap[bx]? = some (.cells #[.int .u8 (kp : Int), .int .u8 (m 0 : Int), .int .u8 (m 1 : Int), .int .u8 (m 2 : Int), .int .u8 (m 3 : Int), .int .u8 (m 4 : Int), .int .u8 (m 5 : Int), .int .u8 (x 0 : Int), .int .u8 (x 1 : Int), .int .u8 (x 2 : Int), .int .u8 (x 3 : Int), .int .u8 (x 4 : Int), .int .u8 (x 5 : Int), .int .u8 (x 6 : Int), .int .u8 (x 7 : Int), .int .u8 (x 8 : Int), .int .u8 (x 9 : Int), .int .u8 (x 10 : Int), .int .u8 (x 11 : Int), .int .u8 (x 12 : Int), .int .u8 (x 13 : Int), .int .u8 (x 14 : Int), .int .u8 (x 15 : Int), .int .u8 (bits : Int), .bool on, .bool auto, .int .u32 (v : Int), .int .u32 (p : Int), .slice bA nb bC, .int .u32 (n : Int), .int .u8 (q 0 : Int), .int .u8 (q 1 : Int), .int .u8 (q 2 : Int), .int .u8 (q 3 : Int), .int .u8 (q 4 : Int), .int .u8 (q 5 : Int), .slice sA ns sC, .slice dA nd dC] 35 (0, 0)) ∧ Below w.heap.size w wr) (fun _ v17 _ => nd - (intOf v17).toNat)
          case atStart => exact ⟨0, none, 0, Nat.zero_le _, rfl, rfl, World.ownsRow_nil _ _ _ _, HBX17.out, HW17.out⟩
          case round =>
            clear HBX17 HW17
            obtain ⟨k, A, c, hk, rfl, rfl, hown, hbxr, hwr⟩ := hrel
            have HBX := Lib.hid hbxr; have HW := Lib.hid hwr; have HOW := Lib.hid hown
            have c37 : wr.cell? ⟨bx, 37, none⟩ = some (.slice dA nd dC) := (cell_blk hbxr 37).trans rfl
            have hk7 : (okN (D.take k)).length ≤ 7 := by
              have h1 := List.length_filter_le (fun s : ByteArray => domOk s.data.toList) (D.take k)
              have h2 := HD7.out
              have h3 : (D.take k).length ≤ D.length := by rw [List.length_take]; exact Nat.min_le_right _ _
              unfold okN; omega
            clear hown hbxr hwr
            by_cases hlt : k < nd
            · obtain ⟨s, hs⟩ : ∃ s, D[k]? = some s := ⟨D[k]'(by rw [HND.out]; exact hlt), List.getElem?_eq_getElem _⟩
              have ht1 : D.take (k + 1) = D.take k ++ [s] := by rw [List.take_add_one, hs]; rfl
              obtain ⟨b, o, rfl, hb, hc⟩ := HDA.out.at_ (by rintro rfl; simp at hs)
              have cs : wr.cell? ⟨b, o + k, none⟩ = some (.string s) := (HW.out.cell (p := ⟨b, o + k, none⟩) hb).trans (hc k s hs)
              have t3 : (k : Int) < (nd : Int) := by omega
              have hndl := HDL.out
              have HNM := Lib.hid (name16 s wr)
              obtain ⟨m2, hm2⟩ : ∃ m2, (okN (D.take k)).length = m2 := ⟨_, rfl⟩
              have HM2 := Lib.hid hm2
              have hown := HOW.out
              rw [hm2] at hown hk7 ⊢
              have HOW := Lib.hid hown
              have HT1 := Lib.hid ht1
              have HK7 := Lib.hid hk7
              have HCS := Lib.hid cs
              clear hs hc hm2 hown ht1 hk7
              go_wp2_with fail
              refine (HNM.out).mono ?_
              rintro e w1 ⟨rfl, hb1⟩
              have HBX1 := Lib.hid ((hb1.block _ (lt_of_blk HBX.out)).trans HBX.out)
              have HW1 := Lib.hid (HW.out.trans (hb1.mono HW.out.size))
              have HOW1 := Lib.hid (own_below HOW.out hb1)
              have c37' : w1.cell? ⟨bx, 37, none⟩ = some (.slice (some ⟨b, o, none⟩) nd dC) := (cell_blk HBX1.out 37).trans rfl
              have cs' : w1.cell? ⟨b, o + k, none⟩ = some (.string s) := (hb1.cell (p := ⟨b, o + k, none⟩) (lt_of_cell HCS.out)).trans HCS.out
              clear hb1 HNM HBX HW HOW c37 cs HCS
              cases hd : domOk s.data.toList with
              | false =>
                have HOK : Hid (okN (D.take (k + 1)) = okN (D.take k)) := Lib.hid (by rw [HT1.out]; unfold okN; rw [List.filter_append]; simp [hd])
                clear hd
                go_wp2_with fail
                go_roundw
                case rel => exact ⟨k + 1, A, c, by omega, by go_num, by rw [HOK.out, HM2.out], by rw [HOK.out, HM2.out]; exact HOW1.out, HBX1.out, HW1.out⟩
                case measure => simp [intOf]; omega
              | true =>
                have HOK : Hid (okN (D.take (k + 1)) = okN (D.take k) ++ [s]) := Lib.hid (by rw [HT1.out]; unfold okN; rw [List.filter_append]; simp [hd])
                have hk7 := HK7.out
                clear hd
                go_wp2_with (at_builtin; refine wpList_append_own _ rfl _ _ 33 rfl (bx + 1) 9 i9 (.string ByteArray.empty) 1 16 Tryd.underlying33 hi hz0 hz1 hz2 rfl (by decide) _ _ _ rfl (HOW1.out.alloc _) ⟨w1.heap.size, 0, none⟩ 1 1 [.string s] rfl rfl ?c2 ?c1 ?c3 ?c4 ?c5 ?_)
                case c2 =>
                  intro j u hj
                  rw [Addr.add_mid, Nat.zero_add]
                  have c := cell_blk (heap_alloc_new w1 (.cells #[.string s] 9)) j
                  exact c.trans (by simpa using hj)
                case c1 => intro u hu; simp only [List.mem_cons, List.not_mem_nil, or_false] at hu; subst hu; rfl
                case c3 => unfold maxLen; omega
                case c4 => omega
                case c5 => have := lt_of_blk HBX1.out; simp; omega
                intro v7 w7 ho7 hg7 _
                obtain ⟨A7, c7, rfl, -⟩ := own_slice2 ho7
                have hal : Below w1.heap.size w1 (w1.alloc (.cells #[.string s] 9)) := (Below.refl _ _).alloc (Nat.le_refl _) _
                have hkk : ∀ j, (Value.slice A m2 c).ownBlock = some j → bx + 1 ≤ j := fun j e => (HOW1.out.lt j e).1
                have HBX7 := Lib.hid ((hg7.block bx (Nat.lt_of_lt_of_le (lt_of_blk HBX1.out) hal.size) (fun e => by have := hkk bx e.symm; omega)).trans ((hal.block bx (lt_of_blk HBX1.out)).trans HBX1.out))
                have HW7 := Lib.hid (Below.grown' (HW1.out.trans (hal.mono HW1.out.size)) hg7 (Nat.le_trans HW1.out.size hal.size) (fun j e => by have := hkk j e; have := HBXW.out; omega))
                have HO7 : Hid (w7.ownsRow (bx + 1) 9 1 (.slice A7 (okN (D.take (k + 1))).length c7) (okN (D.take (k + 1))).length ((okN (D.take (k + 1))).map Value.string)) := Lib.hid (by
                  rw [HOK.out, List.length_append, HM2.out, List.map_append]; exact ho7)
                have HL7 : Hid ((okN (D.take (k + 1))).length = m2 + 1) := Lib.hid (by rw [HOK.out, List.length_append, HM2.out]; rfl)
                clear ho7 hg7 hal hkk
                go_wp2_with fail
                go_roundw
                case rel => exact ⟨k + 1, A7, c7, by omega, by go_num, by rw [HL7.out], HO7.out, HBX7.out, HW7.out⟩
                case measure => simp [intOf]; omega
            · obtain rfl : k = nd := by omega
              have et : D.take k = D := List.take_of_length_le (by rw [HND.out]; exact Nat.le_refl _)
              have t3 : ¬ (k : Int) < (k : Int) := by omega
              have hown := HOW.out
              rw [et] at hown ⊢
              obtain ⟨m2, hm2⟩ : ∃ m2, (okN D).length = m2 := ⟨_, rfl⟩
              rw [hm2] at hown ⊢
              have HM2 := Lib.hid hm2
              have HDN := Lib.hid (own_doms hown hm2 (fun s hs => HDZ.out s (List.mem_filter.1 hs).1) (by rw [← hm2]; unfold okN; have := List.length_filter_le (fun s : ByteArray => domOk s.data.toList) D; have := HD7.out; omega))
              clear hown hm2 et HOW hk7
              go_upto_region 25 with (fail)
              clear c37
              refine regR25 HBX.out HN.out ((HDA.out.below HW.out).mono HW.out.size) HND.out HD7.out (by obtain ⟨mx, hmx⟩ := HMX.out; exact ⟨mx, (HW.out.cell (p := ⟨0, 0, none⟩) (lt_of_cell hmx)).trans hmx⟩) ?_
              intro X2 V2 r2 r154 r155 r156 r157 r158 r159 r160 r161 r162 r163 r164 W25 hr25 hb25
              have HBX25 := Lib.hid ((hb25.block _ (lt_of_blk HBX.out)).trans HBX.out)
              have HW25 := Lib.hid (HW.out.trans (hb25.mono HW.out.size))
              have HDN25 := Lib.hid ((HDN.out.below hb25).mono hb25.size)
              have HR25 := Lib.hid hr25
              clear hr25 hb25 HBX HW HDN
              go_upto_region 26 with (fail)
              refine regR26 HBX25.out HR25.out HDN25.out HM2.out ?_
              intro r165 r166 r167 r168 r169 r170 r171 r172 r173 r174 r175 r176 r177 r178 r179 r180 r181 r182 r183 r184 r185 r186 r187 W26 hb26
              have HW26 := Lib.hid (HW25.out.trans (hb26.mono HW25.out.size))
              clear hb26 HBX25 HR25 HDN25
              go_wp2_with fail
              go_ret
              exact ⟨rfl, HW26.out⟩
end Go.Proofs.YtfolamkjlgpgmabDoor
