/- Several texts in one: MixK, MixC, MixD, MixE. No condition beyond those that each part names. -/
import Derived.Test.YtfolamkjlgpgmaaGreatDoorMix
import Derived.Test.YtfolamkjlgpgmaaGreatDoorEqual
import Derived.Handy
import Derived.Test.YtfolamkjlgpgmaaGreatDoorBooks
/- Strips of addresses: are they kept: the walk. No condition. (Printed by gMix.py.) -/
namespace Go.Proofs.YtfolamkjlgpgmaaGreatDoor
open Go.RowKit
set_option linter.unusedVariables false
set_option linter.unusedSimpArgs false
structure GSw (p : Nat) (bx : Array Value) (g a : Nat) (y : Nat → Nat) (W : World) : Prop where
  box : W.heap[p]? = some (.cells bx 103 (0, 0))
  row : W.rangeAt g a (adrL y)
theorem adrL_lit (y : Nat → Nat) : (adrL y).toArray = #[.int .u8 (y 0 : Int), .int .u8 (y 1 : Int), .int .u8 (y 2 : Int), .int .u8 (y 3 : Int), .int .u8 (y 4 : Int), .int .u8 (y 5 : Int), .int .u8 (y 6 : Int), .int .u8 (y 7 : Int), .int .u8 (y 8 : Int), .int .u8 (y 9 : Int), .int .u8 (y 10 : Int), .int .u8 (y 11 : Int), .int .u8 (y 12 : Int), .int .u8 (y 13 : Int), .int .u8 (y 14 : Int), .int .u8 (y 15 : Int)] := by simp [adrL, List.range_succ]
theorem adr_same2 {y : Nat → Nat} (hy : ∀ j, j < 16 → y j < 256) (W : World) : (Op.equalIn 10000 32 (.agg (adrL y).toArray) (.agg (adrL y).toArray)).run Tryz.prog W = .ok true W := by
  rw [adrL_lit]; exact adr_eqIn hy 9998 W
theorem range_1 {W : World} {p : Nat} {v : Value} {y z : Nat → Nat} (h : W.heap[p]? = some (.cells #[v, .int .u8 (y 0 : Int), .int .u8 (y 1 : Int), .int .u8 (y 2 : Int), .int .u8 (y 3 : Int), .int .u8 (y 4 : Int), .int .u8 (y 5 : Int), .int .u8 (y 6 : Int), .int .u8 (y 7 : Int), .int .u8 (y 8 : Int), .int .u8 (y 9 : Int), .int .u8 (y 10 : Int), .int .u8 (y 11 : Int), .int .u8 (y 12 : Int), .int .u8 (y 13 : Int), .int .u8 (y 14 : Int), .int .u8 (y 15 : Int), .int .u8 (z 0 : Int), .int .u8 (z 1 : Int), .int .u8 (z 2 : Int), .int .u8 (z 3 : Int), .int .u8 (z 4 : Int), .int .u8 (z 5 : Int), .int .u8 (z 6 : Int), .int .u8 (z 7 : Int), .int .u8 (z 8 : Int), .int .u8 (z 9 : Int), .int .u8 (z 10 : Int), .int .u8 (z 11 : Int), .int .u8 (z 12 : Int), .int .u8 (z 13 : Int), .int .u8 (z 14 : Int), .int .u8 (z 15 : Int)] 103 (0, 0))) : W.rangeAt p 1 (adrL y) := by
  rw [box_1] at h
  exact range_mid h
theorem range_17 {W : World} {p : Nat} {v : Value} {y z : Nat → Nat} (h : W.heap[p]? = some (.cells #[v, .int .u8 (y 0 : Int), .int .u8 (y 1 : Int), .int .u8 (y 2 : Int), .int .u8 (y 3 : Int), .int .u8 (y 4 : Int), .int .u8 (y 5 : Int), .int .u8 (y 6 : Int), .int .u8 (y 7 : Int), .int .u8 (y 8 : Int), .int .u8 (y 9 : Int), .int .u8 (y 10 : Int), .int .u8 (y 11 : Int), .int .u8 (y 12 : Int), .int .u8 (y 13 : Int), .int .u8 (y 14 : Int), .int .u8 (y 15 : Int), .int .u8 (z 0 : Int), .int .u8 (z 1 : Int), .int .u8 (z 2 : Int), .int .u8 (z 3 : Int), .int .u8 (z 4 : Int), .int .u8 (z 5 : Int), .int .u8 (z 6 : Int), .int .u8 (z 7 : Int), .int .u8 (z 8 : Int), .int .u8 (z 9 : Int), .int .u8 (z 10 : Int), .int .u8 (z 11 : Int), .int .u8 (z 12 : Int), .int .u8 (z 13 : Int), .int .u8 (z 14 : Int), .int .u8 (z 15 : Int)] 103 (0, 0))) : W.rangeAt p 17 (adrL z) := by
  rw [box_2] at h
  have := range_mid h
  simpa [adrL_length] using this
theorem GsIs.row {W : World} {x : Gs} {a b g o k : Nat} {y : Nat → Nat} (h : GsIs W x a b (sgF y)) (hA : x.adr = some ⟨g, o, none⟩) (h1 : a ≤ k * 16) (h2 : k * 16 + 16 ≤ b) : W.rangeAt g (o + k * 16) (adrL y) := fun j v hj => by
  have hjl : j < 16 := by have := (List.getElem?_eq_some_iff.1 hj).1; rwa [adrL_length] at this
  rw [Nat.add_assoc, h g o hA (k * 16 + j) (by omega) (by omega), sgF_vs y k j v hj]
set_option maxRecDepth 100000 in
set_option maxHeartbeats 1000000 in
theorem keptA {A : Option Addr} {n c lo hi : Nat} (y z : Nat → Nat) (hy : ∀ j, j < 16 → y j < 256) (hz : ∀ j, j < 16 → z j < 256) (w : World) (hx : GsIn lo hi w ⟨A, n, c, 32, 16⟩) (hs : GsIs w ⟨A, n, c, 32, 16⟩ 0 (n * 16) (sgF y)) (hr : GsIs w ⟨A, n, c, 32, 16⟩ (n * 16) (c * 16) (sgF z)) :
    Calls Tryz.prog 134 #[.agg #[.slice A n c, .int .u8 (y 0 : Int), .int .u8 (y 1 : Int), .int .u8 (y 2 : Int), .int .u8 (y 3 : Int), .int .u8 (y 4 : Int), .int .u8 (y 5 : Int), .int .u8 (y 6 : Int), .int .u8 (y 7 : Int), .int .u8 (y 8 : Int), .int .u8 (y 9 : Int), .int .u8 (y 10 : Int), .int .u8 (y 11 : Int), .int .u8 (y 12 : Int), .int .u8 (y 13 : Int), .int .u8 (y 14 : Int), .int .u8 (y 15 : Int), .int .u8 (z 0 : Int), .int .u8 (z 1 : Int), .int .u8 (z 2 : Int), .int .u8 (z 3 : Int), .int .u8 (z 4 : Int), .int .u8 (z 5 : Int), .int .u8 (z 6 : Int), .int .u8 (z 7 : Int), .int .u8 (z 8 : Int), .int .u8 (z 9 : Int), .int .u8 (z 10 : Int), .int .u8 (z 11 : Int), .int .u8 (z 12 : Int), .int .u8 (z 13 : Int), .int .u8 (z 14 : Int), .int .u8 (z 15 : Int)]] w (KeptPost w) := by
  have hfit : n ≤ c := hx.fit
  have hmax : c * 16 ≤ 9223372036854775807 := hx.max
  have HSZ := Lib.hid (show (Tryz.prog.info? 32).map (·.size) = some 16 by kernel_rfl)
  have HEQy := Lib.hid (adr_same2 hy)
  have HEQz := Lib.hid (adr_same2 hz)
  have hA : (A = none ∧ n = 0 ∧ c = 0) ∨ ∃ g o, A = some ⟨g, o, none⟩ := by
    rcases hx.at_ with ⟨h1, h2⟩ | ⟨g, o, cs, h1, _⟩
    · have h2 : c = 0 := h2
      exact .inl ⟨h1, by omega, h2⟩
    · exact .inr ⟨g, o, h1⟩
  have hal : Below w.heap.size w (w.alloc (.cells #[.slice A n c, .int .u8 (y 0 : Int), .int .u8 (y 1 : Int), .int .u8 (y 2 : Int), .int .u8 (y 3 : Int), .int .u8 (y 4 : Int), .int .u8 (y 5 : Int), .int .u8 (y 6 : Int), .int .u8 (y 7 : Int), .int .u8 (y 8 : Int), .int .u8 (y 9 : Int), .int .u8 (y 10 : Int), .int .u8 (y 11 : Int), .int .u8 (y 12 : Int), .int .u8 (y 13 : Int), .int .u8 (y 14 : Int), .int .u8 (y 15 : Int), .int .u8 (z 0 : Int), .int .u8 (z 1 : Int), .int .u8 (z 2 : Int), .int .u8 (z 3 : Int), .int .u8 (z 4 : Int), .int .u8 (z 5 : Int), .int .u8 (z 6 : Int), .int .u8 (z 7 : Int), .int .u8 (z 8 : Int), .int .u8 (z 9 : Int), .int .u8 (z 10 : Int), .int .u8 (z 11 : Int), .int .u8 (z 12 : Int), .int .u8 (z 13 : Int), .int .u8 (z 14 : Int), .int .u8 (z 15 : Int)] 103)) := (Below.refl _ _).alloc (Nat.le_refl _) _
  have HP0 : Hid (GKb ⟨A, n, c, 32, 16⟩ (n * 16) (sgF y) (sgF z) w (w.alloc (.cells #[.slice A n c, .int .u8 (y 0 : Int), .int .u8 (y 1 : Int), .int .u8 (y 2 : Int), .int .u8 (y 3 : Int), .int .u8 (y 4 : Int), .int .u8 (y 5 : Int), .int .u8 (y 6 : Int), .int .u8 (y 7 : Int), .int .u8 (y 8 : Int), .int .u8 (y 9 : Int), .int .u8 (y 10 : Int), .int .u8 (y 11 : Int), .int .u8 (y 12 : Int), .int .u8 (y 13 : Int), .int .u8 (y 14 : Int), .int .u8 (y 15 : Int), .int .u8 (z 0 : Int), .int .u8 (z 1 : Int), .int .u8 (z 2 : Int), .int .u8 (z 3 : Int), .int .u8 (z 4 : Int), .int .u8 (z 5 : Int), .int .u8 (z 6 : Int), .int .u8 (z 7 : Int), .int .u8 (z 8 : Int), .int .u8 (z 9 : Int), .int .u8 (z 10 : Int), .int .u8 (z 11 : Int), .int .u8 (z 12 : Int), .int .u8 (z 13 : Int), .int .u8 (z 14 : Int), .int .u8 (z 15 : Int)] 103)) w.heap.size (.cells #[.slice A n c, .int .u8 (y 0 : Int), .int .u8 (y 1 : Int), .int .u8 (y 2 : Int), .int .u8 (y 3 : Int), .int .u8 (y 4 : Int), .int .u8 (y 5 : Int), .int .u8 (y 6 : Int), .int .u8 (y 7 : Int), .int .u8 (y 8 : Int), .int .u8 (y 9 : Int), .int .u8 (y 10 : Int), .int .u8 (y 11 : Int), .int .u8 (y 12 : Int), .int .u8 (y 13 : Int), .int .u8 (y 14 : Int), .int .u8 (y 15 : Int), .int .u8 (z 0 : Int), .int .u8 (z 1 : Int), .int .u8 (z 2 : Int), .int .u8 (z 3 : Int), .int .u8 (z 4 : Int), .int .u8 (z 5 : Int), .int .u8 (z 6 : Int), .int .u8 (z 7 : Int), .int .u8 (z 8 : Int), .int .u8 (z 9 : Int), .int .u8 (z 10 : Int), .int .u8 (z 11 : Int), .int .u8 (z 12 : Int), .int .u8 (z 13 : Int), .int .u8 (z 14 : Int), .int .u8 (z 15 : Int)] 103 (0, 0))) := Lib.hid ⟨hal, heap_alloc_new _ _, hs.step hal, hr.step hal⟩
  clear hx hs hr hal hy hz
  go_enter Tryz.func134, Tryz.ntmps134
  go_wp2_with fail
  obtain ⟨p, hp⟩ : ∃ p, p = w.heap.size := ⟨_, rfl⟩
  rw [← hp] at HP0 ⊢
  have NP := Lib.hid hp; clear hp
  go_loopw [3] (fun i wr => ∃ k : Nat, k ≤ n ∧ i = .int .i64 k ∧ GKb ⟨A, n, c, 32, 16⟩ (n * 16) (sgF y) (sgF z) w wr p (.cells #[.slice A n c, .int .u8 (y 0 : Int), .int .u8 (y 1 : Int), .int .u8 (y 2 : Int), .int .u8 (y 3 : Int), .int .u8 (y 4 : Int), .int .u8 (y 5 : Int), .int .u8 (y 6 : Int), .int .u8 (y 7 : Int), .int .u8 (y 8 : Int), .int .u8 (y 9 : Int), .int .u8 (y 10 : Int), .int .u8 (y 11 : Int), .int .u8 (y 12 : Int), .int .u8 (y 13 : Int), .int .u8 (y 14 : Int), .int .u8 (y 15 : Int), .int .u8 (z 0 : Int), .int .u8 (z 1 : Int), .int .u8 (z 2 : Int), .int .u8 (z 3 : Int), .int .u8 (z 4 : Int), .int .u8 (z 5 : Int), .int .u8 (z 6 : Int), .int .u8 (z 7 : Int), .int .u8 (z 8 : Int), .int .u8 (z 9 : Int), .int .u8 (z 10 : Int), .int .u8 (z 11 : Int), .int .u8 (z 12 : Int), .int .u8 (z 13 : Int), .int .u8 (z 14 : Int), .int .u8 (z 15 : Int)] 103 (0, 0))) (fun i _ => n - (intOf i).toNat)
  case atStart => exact ⟨0, Nat.zero_le _, rfl, HP0.out⟩
  case round =>
    clear HP0
    obtain ⟨k, hk, rfl, hB⟩ := hrel
    have b0 := cell_blk hB.box 0
    simp only [List.getElem?_toArray, List.getElem?_cons_zero] at b0
    have HB := Lib.hid hB
    clear hB
    by_cases hlt : k < n
    · rcases hA with ⟨rfl, rfl, rfl⟩ | ⟨g, o, rfl⟩
      · omega
      · have HGS : Hid (GSw p #[.slice (some ⟨g, o, none⟩) n c, .int .u8 (y 0 : Int), .int .u8 (y 1 : Int), .int .u8 (y 2 : Int), .int .u8 (y 3 : Int), .int .u8 (y 4 : Int), .int .u8 (y 5 : Int), .int .u8 (y 6 : Int), .int .u8 (y 7 : Int), .int .u8 (y 8 : Int), .int .u8 (y 9 : Int), .int .u8 (y 10 : Int), .int .u8 (y 11 : Int), .int .u8 (y 12 : Int), .int .u8 (y 13 : Int), .int .u8 (y 14 : Int), .int .u8 (y 15 : Int), .int .u8 (z 0 : Int), .int .u8 (z 1 : Int), .int .u8 (z 2 : Int), .int .u8 (z 3 : Int), .int .u8 (z 4 : Int), .int .u8 (z 5 : Int), .int .u8 (z 6 : Int), .int .u8 (z 7 : Int), .int .u8 (z 8 : Int), .int .u8 (z 9 : Int), .int .u8 (z 10 : Int), .int .u8 (z 11 : Int), .int .u8 (z 12 : Int), .int .u8 (z 13 : Int), .int .u8 (z 14 : Int), .int .u8 (z 15 : Int)] g (o + k * 16) y wr.drew) := Lib.hid ⟨HB.out.box, HB.out.ins.row rfl (Nat.zero_le _) (by omega)⟩
        go_upto_region 4 with (fail)
        have hS : GSw p #[.slice (some ⟨g, o, none⟩) n c, .int .u8 (y 0 : Int), .int .u8 (y 1 : Int), .int .u8 (y 2 : Int), .int .u8 (y 3 : Int), .int .u8 (y 4 : Int), .int .u8 (y 5 : Int), .int .u8 (y 6 : Int), .int .u8 (y 7 : Int), .int .u8 (y 8 : Int), .int .u8 (y 9 : Int), .int .u8 (y 10 : Int), .int .u8 (y 11 : Int), .int .u8 (y 12 : Int), .int .u8 (y 13 : Int), .int .u8 (y 14 : Int), .int .u8 (y 15 : Int), .int .u8 (z 0 : Int), .int .u8 (z 1 : Int), .int .u8 (z 2 : Int), .int .u8 (z 3 : Int), .int .u8 (z 4 : Int), .int .u8 (z 5 : Int), .int .u8 (z 6 : Int), .int .u8 (z 7 : Int), .int .u8 (z 8 : Int), .int .u8 (z 9 : Int), .int .u8 (z 10 : Int), .int .u8 (z 11 : Int), .int .u8 (z 12 : Int), .int .u8 (z 13 : Int), .int .u8 (z 14 : Int), .int .u8 (z 15 : Int)] g (o + k * 16) y wr.drew := HGS.out
        refine wp_region_held_drew (S := fun W => GSw p #[.slice (some ⟨g, o, none⟩) n c, .int .u8 (y 0 : Int), .int .u8 (y 1 : Int), .int .u8 (y 2 : Int), .int .u8 (y 3 : Int), .int .u8 (y 4 : Int), .int .u8 (y 5 : Int), .int .u8 (y 6 : Int), .int .u8 (y 7 : Int), .int .u8 (y 8 : Int), .int .u8 (y 9 : Int), .int .u8 (y 10 : Int), .int .u8 (y 11 : Int), .int .u8 (y 12 : Int), .int .u8 (y 13 : Int), .int .u8 (y 14 : Int), .int .u8 (y 15 : Int), .int .u8 (z 0 : Int), .int .u8 (z 1 : Int), .int .u8 (z 2 : Int), .int .u8 (z 3 : Int), .int .u8 (z 4 : Int), .int .u8 (z 5 : Int), .int .u8 (z 6 : Int), .int .u8 (z 7 : Int), .int .u8 (z 8 : Int), .int .u8 (z 9 : Int), .int .u8 (z 10 : Int), .int .u8 (z 11 : Int), .int .u8 (z 12 : Int), .int .u8 (z 13 : Int), .int .u8 (z 14 : Int), .int .u8 (z 15 : Int)] g (o + k * 16) y W) (by kernel_rfl) hS ?_
        clear hS
        intro HS
        refine wpAnyH_take (i := 0) (v := ?_) rfl (by kernel_rfl) (by kernel_rfl) (by kernel_rfl) (fun _ _ _ h => h) (Or.inl ⟨by go_simp, ?hy⟩) HS ?_
        case hy => intro W hW; go_simp; (try with_reducible rfl)
        try simp only [List.getElem_toArray, List.getElem_cons_zero, List.getElem_cons_succ, Act.put, List.setIfInBounds_toArray, List.set_cons_zero, List.set_cons_succ]
        refine wpAnyH_take (i := 1) (v := (.slice (some ⟨g, o, none⟩) n c)) rfl (by kernel_rfl) (by kernel_rfl) (by kernel_rfl) (fun _ _ _ h => h) (Or.inl ⟨by go_simp, fun W hW => by have d := cell_blk hW.box 0; simp only [List.getElem?_toArray, List.getElem?_cons_zero] at d; go_simp⟩) HS ?_
        try simp only [List.getElem_toArray, List.getElem_cons_zero, List.getElem_cons_succ, Act.put, List.setIfInBounds_toArray, List.set_cons_zero, List.set_cons_succ]
        refine wpAnyH_take (i := 2) (v := ?_) rfl (by kernel_rfl) (by kernel_rfl) (by kernel_rfl) (fun _ _ _ h => h) (Or.inl ⟨by go_simp, ?hy⟩) HS ?_
        case hy => intro W hW; go_simp; (try with_reducible rfl)
        try simp only [List.getElem_toArray, List.getElem_cons_zero, List.getElem_cons_succ, Act.put, List.setIfInBounds_toArray, List.set_cons_zero, List.set_cons_succ]
        refine wpAnyH_take (i := 3) (v := (.pointer (some ⟨g, o + k * 16, none⟩))) rfl (by kernel_rfl) (by kernel_rfl) (by kernel_rfl) (fun _ _ _ h => h) (Or.inl ⟨by go_simp, fun W hW => by go_simp⟩) HS ?_
        try simp only [List.getElem_toArray, List.getElem_cons_zero, List.getElem_cons_succ, Act.put, List.setIfInBounds_toArray, List.set_cons_zero, List.set_cons_succ]
        refine wpAnyH_take (i := 4) (v := .agg (adrL y).toArray) rfl (by kernel_rfl) (by kernel_rfl) (by kernel_rfl) (fun _ _ _ h => h) (by refine yieldsIf_load_mid ?hw 32 (.tmp 16) ?ho g (o + k * 16) ?hx (adrL y) _ (fun W hW => hW.row) Tryz.underlying32 rfl (by rw [adrL_length]; exact HSZ.out); (case ho => rfl); (case hw => go_simp); (case hx => go_simp)) HS ?_
        try simp only [List.getElem_toArray, List.getElem_cons_zero, List.getElem_cons_succ, Act.put, List.setIfInBounds_toArray, List.set_cons_zero, List.set_cons_succ]
        refine wpAnyH_take (i := 5) (v := ?_) rfl (by kernel_rfl) (by kernel_rfl) (by kernel_rfl) (fun _ _ _ h => h) (Or.inl ⟨by go_simp, ?hy⟩) HS ?_
        case hy => intro W hW; go_simp; (try with_reducible rfl)
        try simp only [List.getElem_toArray, List.getElem_cons_zero, List.getElem_cons_succ, Act.put, List.setIfInBounds_toArray, List.set_cons_zero, List.set_cons_succ]
        refine wpAnyH_take (i := 6) (v := .agg (adrL y).toArray) rfl (by kernel_rfl) (by kernel_rfl) (by kernel_rfl) (fun _ _ _ h => h) (by refine yieldsIf_load_mid ?hw 32 (.tmp 18) ?ho p (1) ?hx (adrL y) _ (fun W hW => range_1 hW.box) Tryz.underlying32 rfl (by rw [adrL_length]; exact HSZ.out); (case ho => rfl); (case hw => go_simp); (case hx => go_simp)) HS ?_
        try simp only [List.getElem_toArray, List.getElem_cons_zero, List.getElem_cons_succ, Act.put, List.setIfInBounds_toArray, List.set_cons_zero, List.set_cons_succ]
        refine wpAnyH_take (i := 7) (v := .bool false) rfl (by kernel_rfl) (by kernel_rfl) (by kernel_rfl) (fun _ _ _ h => h) (Or.inl ⟨by go_simp, fun W hW => by have hq := HEQy.out W; go_simp⟩) HS ?_
        try simp only [List.getElem_toArray, List.getElem_cons_zero, List.getElem_cons_succ, Act.put, List.setIfInBounds_toArray, List.set_cons_zero, List.set_cons_succ]
        refine wpAnyH_done (by kernel_rfl) ?_ _
        clear HS
        go_wp2_with fail
        go_roundw
        case rel => exact ⟨k + 1, by omega, by go_num, HB.out.drewN 1⟩
        case measure => simp [intOf]; omega
    · obtain rfl : k = n := by omega
      rcases hA with ⟨rfl, rfl, rfl⟩ | ⟨g, o, rfl⟩
      · go_wp2_with fail
        go_loop [5] (fun i => i = .int .i64 0) (fun i => 0)
        case atStart => rfl
        case round =>
          obtain rfl := hrel
          go_wp2_with fail
          go_ret
          exact ⟨rfl, by rw [← NP.out]; exact HB.out.below⟩
      · by_cases hcn : c = k
        · subst hcn
          go_wp2_with fail
          go_loop [5] (fun i => i = .int .i64 0) (fun i => 0)
          case atStart => rfl
          case round =>
            obtain rfl := hrel
            go_wp2_with fail
            go_ret
            exact ⟨rfl, by rw [← NP.out]; exact HB.out.below⟩
        · go_wp2_with fail
          go_loopw [5] (fun i wr => ∃ j : Nat, k + j ≤ c ∧ i = .int .i64 j ∧ GKb ⟨some ⟨g, o, none⟩, k, c, 32, 16⟩ (k * 16) (sgF y) (sgF z) w wr p (.cells #[.slice (some ⟨g, o, none⟩) k c, .int .u8 (y 0 : Int), .int .u8 (y 1 : Int), .int .u8 (y 2 : Int), .int .u8 (y 3 : Int), .int .u8 (y 4 : Int), .int .u8 (y 5 : Int), .int .u8 (y 6 : Int), .int .u8 (y 7 : Int), .int .u8 (y 8 : Int), .int .u8 (y 9 : Int), .int .u8 (y 10 : Int), .int .u8 (y 11 : Int), .int .u8 (y 12 : Int), .int .u8 (y 13 : Int), .int .u8 (y 14 : Int), .int .u8 (y 15 : Int), .int .u8 (z 0 : Int), .int .u8 (z 1 : Int), .int .u8 (z 2 : Int), .int .u8 (z 3 : Int), .int .u8 (z 4 : Int), .int .u8 (z 5 : Int), .int .u8 (z 6 : Int), .int .u8 (z 7 : Int), .int .u8 (z 8 : Int), .int .u8 (z 9 : Int), .int .u8 (z 10 : Int), .int .u8 (z 11 : Int), .int .u8 (z 12 : Int), .int .u8 (z 13 : Int), .int .u8 (z 14 : Int), .int .u8 (z 15 : Int)] 103 (0, 0))) (fun i _ => c - k - (intOf i).toNat)
          case atStart => exact ⟨0, hfit, rfl, HB.out⟩
          case round =>
            clear HB b0
            obtain ⟨j, hj, rfl, hB⟩ := hrel
            have HB := Lib.hid hB
            clear hB
            by_cases hlt : k + j < c
            · have HGS : Hid (GSw p #[.slice (some ⟨g, o, none⟩) k c, .int .u8 (y 0 : Int), .int .u8 (y 1 : Int), .int .u8 (y 2 : Int), .int .u8 (y 3 : Int), .int .u8 (y 4 : Int), .int .u8 (y 5 : Int), .int .u8 (y 6 : Int), .int .u8 (y 7 : Int), .int .u8 (y 8 : Int), .int .u8 (y 9 : Int), .int .u8 (y 10 : Int), .int .u8 (y 11 : Int), .int .u8 (y 12 : Int), .int .u8 (y 13 : Int), .int .u8 (y 14 : Int), .int .u8 (y 15 : Int), .int .u8 (z 0 : Int), .int .u8 (z 1 : Int), .int .u8 (z 2 : Int), .int .u8 (z 3 : Int), .int .u8 (z 4 : Int), .int .u8 (z 5 : Int), .int .u8 (z 6 : Int), .int .u8 (z 7 : Int), .int .u8 (z 8 : Int), .int .u8 (z 9 : Int), .int .u8 (z 10 : Int), .int .u8 (z 11 : Int), .int .u8 (z 12 : Int), .int .u8 (z 13 : Int), .int .u8 (z 14 : Int), .int .u8 (z 15 : Int)] g (o + k * 16 + j * 16) z wr.drew) := Lib.hid ⟨HB.out.box, by
                have := HB.out.outs.row (k := k + j) rfl (by omega) (by show (k + j) * 16 + 16 ≤ c * 16; omega)
                rwa [show o + (k + j) * 16 = o + k * 16 + j * 16 by omega] at this⟩
              go_upto_region 10 with (fail)
              have hS : GSw p #[.slice (some ⟨g, o, none⟩) k c, .int .u8 (y 0 : Int), .int .u8 (y 1 : Int), .int .u8 (y 2 : Int), .int .u8 (y 3 : Int), .int .u8 (y 4 : Int), .int .u8 (y 5 : Int), .int .u8 (y 6 : Int), .int .u8 (y 7 : Int), .int .u8 (y 8 : Int), .int .u8 (y 9 : Int), .int .u8 (y 10 : Int), .int .u8 (y 11 : Int), .int .u8 (y 12 : Int), .int .u8 (y 13 : Int), .int .u8 (y 14 : Int), .int .u8 (y 15 : Int), .int .u8 (z 0 : Int), .int .u8 (z 1 : Int), .int .u8 (z 2 : Int), .int .u8 (z 3 : Int), .int .u8 (z 4 : Int), .int .u8 (z 5 : Int), .int .u8 (z 6 : Int), .int .u8 (z 7 : Int), .int .u8 (z 8 : Int), .int .u8 (z 9 : Int), .int .u8 (z 10 : Int), .int .u8 (z 11 : Int), .int .u8 (z 12 : Int), .int .u8 (z 13 : Int), .int .u8 (z 14 : Int), .int .u8 (z 15 : Int)] g (o + k * 16 + j * 16) z wr.drew := HGS.out
              refine wp_region_held_drew (S := fun W => GSw p #[.slice (some ⟨g, o, none⟩) k c, .int .u8 (y 0 : Int), .int .u8 (y 1 : Int), .int .u8 (y 2 : Int), .int .u8 (y 3 : Int), .int .u8 (y 4 : Int), .int .u8 (y 5 : Int), .int .u8 (y 6 : Int), .int .u8 (y 7 : Int), .int .u8 (y 8 : Int), .int .u8 (y 9 : Int), .int .u8 (y 10 : Int), .int .u8 (y 11 : Int), .int .u8 (y 12 : Int), .int .u8 (y 13 : Int), .int .u8 (y 14 : Int), .int .u8 (y 15 : Int), .int .u8 (z 0 : Int), .int .u8 (z 1 : Int), .int .u8 (z 2 : Int), .int .u8 (z 3 : Int), .int .u8 (z 4 : Int), .int .u8 (z 5 : Int), .int .u8 (z 6 : Int), .int .u8 (z 7 : Int), .int .u8 (z 8 : Int), .int .u8 (z 9 : Int), .int .u8 (z 10 : Int), .int .u8 (z 11 : Int), .int .u8 (z 12 : Int), .int .u8 (z 13 : Int), .int .u8 (z 14 : Int), .int .u8 (z 15 : Int)] g (o + k * 16 + j * 16) z W) (by kernel_rfl) hS ?_
              clear hS
              intro HS
              refine wpAnyH_take (i := 0) (v := ?_) rfl (by kernel_rfl) (by kernel_rfl) (by kernel_rfl) (fun _ _ _ h => h) (Or.inl ⟨by go_simp, ?hy⟩) HS ?_
              case hy => intro W hW; go_simp; (try with_reducible rfl)
              try simp only [List.getElem_toArray, List.getElem_cons_zero, List.getElem_cons_succ, Act.put, List.setIfInBounds_toArray, List.set_cons_zero, List.set_cons_succ]
              refine wpAnyH_take (i := 1) (v := ?_) rfl (by kernel_rfl) (by kernel_rfl) (by kernel_rfl) (fun _ _ _ h => h) (Or.inl ⟨by go_simp, ?hy⟩) HS ?_
              case hy => intro W hW; go_simp; (try with_reducible rfl)
              try simp only [List.getElem_toArray, List.getElem_cons_zero, List.getElem_cons_succ, Act.put, List.setIfInBounds_toArray, List.set_cons_zero, List.set_cons_succ]
              refine wpAnyH_take (i := 2) (v := (.pointer (some ⟨g, o + k * 16 + j * 16, none⟩))) rfl (by kernel_rfl) (by kernel_rfl) (by kernel_rfl) (fun _ _ _ h => h) (Or.inl ⟨by go_simp, fun W hW => by go_simp⟩) HS ?_
              try simp only [List.getElem_toArray, List.getElem_cons_zero, List.getElem_cons_succ, Act.put, List.setIfInBounds_toArray, List.set_cons_zero, List.set_cons_succ]
              refine wpAnyH_take (i := 3) (v := .agg (adrL z).toArray) rfl (by kernel_rfl) (by kernel_rfl) (by kernel_rfl) (fun _ _ _ h => h) (by refine yieldsIf_load_mid ?hw 32 (.tmp 38) ?ho g (o + k * 16 + j * 16) ?hx (adrL z) _ (fun W hW => hW.row) Tryz.underlying32 rfl (by rw [adrL_length]; exact HSZ.out); (case ho => rfl); (case hw => go_simp); (case hx => go_simp)) HS ?_
              try simp only [List.getElem_toArray, List.getElem_cons_zero, List.getElem_cons_succ, Act.put, List.setIfInBounds_toArray, List.set_cons_zero, List.set_cons_succ]
              refine wpAnyH_take (i := 4) (v := ?_) rfl (by kernel_rfl) (by kernel_rfl) (by kernel_rfl) (fun _ _ _ h => h) (Or.inl ⟨by go_simp, ?hy⟩) HS ?_
              case hy => intro W hW; go_simp; (try with_reducible rfl)
              try simp only [List.getElem_toArray, List.getElem_cons_zero, List.getElem_cons_succ, Act.put, List.setIfInBounds_toArray, List.set_cons_zero, List.set_cons_succ]
              refine wpAnyH_take (i := 5) (v := .agg (adrL z).toArray) rfl (by kernel_rfl) (by kernel_rfl) (by kernel_rfl) (fun _ _ _ h => h) (by refine yieldsIf_load_mid ?hw 32 (.tmp 40) ?ho p (17) ?hx (adrL z) _ (fun W hW => range_17 hW.box) Tryz.underlying32 rfl (by rw [adrL_length]; exact HSZ.out); (case ho => rfl); (case hw => go_simp); (case hx => go_simp)) HS ?_
              try simp only [List.getElem_toArray, List.getElem_cons_zero, List.getElem_cons_succ, Act.put, List.setIfInBounds_toArray, List.set_cons_zero, List.set_cons_succ]
              refine wpAnyH_take (i := 6) (v := .bool false) rfl (by kernel_rfl) (by kernel_rfl) (by kernel_rfl) (fun _ _ _ h => h) (Or.inl ⟨by go_simp, fun W hW => by have hq := HEQz.out W; go_simp⟩) HS ?_
              try simp only [List.getElem_toArray, List.getElem_cons_zero, List.getElem_cons_succ, Act.put, List.setIfInBounds_toArray, List.set_cons_zero, List.set_cons_succ]
              refine wpAnyH_done (by kernel_rfl) ?_ _
              clear HS
              go_wp2_with fail
              go_roundw
              case rel => exact ⟨j + 1, by omega, by go_num, HB.out.drewN 1⟩
              case measure => simp [intOf]; omega
            · go_wp2_with fail
              go_ret
              exact ⟨rfl, by rw [← NP.out]; exact HB.out.below⟩
end Go.Proofs.YtfolamkjlgpgmaaGreatDoor


/- A book of a list of bytes, one of addresses and one of texts: the walks. No condition. (Printed by gMixC.py.) -/
namespace Go.Proofs.YtfolamkjlgpgmaaGreatDoor
open Go.RowKit
set_option linter.unusedVariables false
set_option linter.unusedSimpArgs false
/-- the book at kb holds these leaves -/
def BookV (w : World) (kb : Nat) (L : List Value) : Prop := ∃ v, w.heap[kb]? = some (.cells #[v] 53 (0, 0)) ∧ w.ownsRow kb 107 1 v L.length L
theorem BookV.step {w w' : World} {kb : Nat} {L : List Value} (h : BookV w kb L) (hb : Below w.heap.size w w') : BookV w' kb L := by
  obtain ⟨v, h1, h2⟩ := h
  exact ⟨v, (hb.block kb (lt_of_blk h1)).trans h1, own_below h2 hb⟩
def BookVP (kb : Nat) (L : List Value) (w : World) (e : Ending) (w' : World) : Prop := e = .returned (.tuple #[]) ∧ BookV w' kb L ∧ Below kb w w'
theorem book_one {kb : Nat} {x : Span} {w : World} {e : Ending} {w' : World} (h : BookPost kb ([] ++ [x]) w e w') : BookVP kb [.iface 100 (.agg #[.slice x.adr x.len x.cap, .int .u8 1, .int .u8 254])] w e w' := by
  obtain ⟨h1, ⟨v, h2, h3⟩, h4⟩ := h
  exact ⟨h1, ⟨v, h2, h3⟩, h4⟩
set_option maxRecDepth 100000 in
set_option maxHeartbeats 1000000 in
theorem sign57 (s : Nat) (w : World) :
    Calls Tryz.prog 57 #[.int .i64 2, .int .u8 (s : Int)] w fun e w' => e = .returned (.agg #[.int .u8 2, .int .u8 0, .int .u8 (s : Int), .int .u8 0, .int .u8 0, .int .u8 0, .int .u8 0, .int .u8 0, .int .u8 0, .int .u8 0, .int .u8 0, .int .u8 0, .int .u8 0, .int .u8 0, .int .u8 0, .int .u8 99]) ∧ Below w.heap.size w w' := by
  have H4 := Lib.hid (heap_alloc_new w (.cells #[.int .u8 0, .int .u8 0, .int .u8 0, .int .u8 0, .int .u8 0, .int .u8 0, .int .u8 0, .int .u8 0, .int .u8 0, .int .u8 0, .int .u8 0, .int .u8 0, .int .u8 0, .int .u8 0, .int .u8 0, .int .u8 0] 32))
  have HSZ := Lib.hid (show (Tryz.prog.info? 32).map (·.size) = some 16 by kernel_rfl)
  have HSA : Hid ((Tryz.prog.info? 32).map (·.size) = some (#[.int .u8 2, .int .u8 0, .int .u8 (s : Int), .int .u8 0, .int .u8 0, .int .u8 0, .int .u8 0, .int .u8 0, .int .u8 0, .int .u8 0, .int .u8 0, .int .u8 0, .int .u8 0, .int .u8 0, .int .u8 0, .int .u8 99] : Array Value).size) := Lib.hid (by rw [HSZ.out]; rfl)
  go_enter Tryz.func57, Tryz.ntmps57
  go_wp2_with (first | (refine wpList_store_row rfl 32 (.tmp 4) (.tmp 11) ?ho w.heap.size #[.int .u8 2, .int .u8 0, .int .u8 (s : Int), .int .u8 0, .int .u8 0, .int .u8 0, .int .u8 0, .int .u8 0, .int .u8 0, .int .u8 0, .int .u8 0, .int .u8 0, .int .u8 0, .int .u8 0, .int .u8 0, .int .u8 99] ?hx ?hy 32 _ H4.out HSA.out rfl (by simp [Value.oneCell']) ?_; (case ho => with_reducible rfl); (case hx => rfl); (case hy => rfl)))
  have t := Turned.setRow H4.out #[.int .u8 2, .int .u8 0, .int .u8 (s : Int), .int .u8 0, .int .u8 0, .int .u8 0, .int .u8 0, .int .u8 0, .int .u8 0, .int .u8 0, .int .u8 0, .int .u8 0, .int .u8 0, .int .u8 0, .int .u8 0, .int .u8 99]
  refine bodyPost_ret (results_cell_row rfl _ _ w.heap.size 32 _ (0, 0) _ rfl (t.get (by simp)) Tryz.underlying32 rfl HSA.out) rfl ⟨rfl, ((Below.refl _ _).alloc (Nat.le_refl _) _).trans (t.below (Nat.le_refl _))⟩
set_option maxRecDepth 100000 in
set_option maxHeartbeats 2000000 in
theorem addrs20 {kb n c n0 c0 : Nat} {A A0 : Option Addr} (w : World) (h : BookV w kb [(.iface 100 (.agg #[.slice A0 n0 c0, .int .u8 1, .int .u8 254]))]) :
    Calls Tryz.prog 20 #[.pointer (some ⟨kb, 0, none⟩), .slice A n c] w (BookVP kb [(.iface 100 (.agg #[.slice A0 n0 c0, .int .u8 1, .int .u8 254])), (.iface 103 (.agg #[.slice A n c, .int .u8 2, .int .u8 0, .int .u8 1, .int .u8 0, .int .u8 0, .int .u8 0, .int .u8 0, .int .u8 0, .int .u8 0, .int .u8 0, .int .u8 0, .int .u8 0, .int .u8 0, .int .u8 0, .int .u8 0, .int .u8 99, .int .u8 2, .int .u8 0, .int .u8 2, .int .u8 0, .int .u8 0, .int .u8 0, .int .u8 0, .int .u8 0, .int .u8 0, .int .u8 0, .int .u8 0, .int .u8 0, .int .u8 0, .int .u8 0, .int .u8 0, .int .u8 99]))] w) := by
  obtain ⟨i87, hi, hz0, hz1, hz2⟩ := info_parts info87
  obtain ⟨v, h1, h2⟩ := h
  obtain ⟨q, cq, rfl, hq⟩ := own_slice2 h2
  have h1 : w.heap[kb]? = some (.cells #[.slice q 1 cq] 53 (0, 0)) := h1
  have h2 : w.ownsRow kb 107 1 (.slice q 1 cq) 1 [(.iface 100 (.agg #[.slice A0 n0 c0, .int .u8 1, .int .u8 254]))] := h2
  have HNX := Lib.hid (next54 w h1 (by omega))
  have H1 := Lib.hid h1
  have H2 := Lib.hid h2
  have hkb := lt_of_blk h1
  have HG1 := Lib.hid (fun W => sign57 1 W)
  have HG2 := Lib.hid (fun W => sign57 2 W)
  clear h1 h2
  go_enter Tryz.func20, Tryz.ntmps20
  go_wp2_with fail
  refine (HNX.out).mono ?_
  rintro e w1 ⟨rfl, rfl⟩
  go_upto_region 1 with (fail)
  have hS : True := trivial
  have B0 : Below w.heap.size w w.drew := (Below.refl _ _).drew
  refine wp_region_held_drew (S := fun W => True) (by kernel_rfl) hS ?_
  clear hS
  intro HS
  refine wpAnyH_take (i := 0) (v := ?_) rfl (by kernel_rfl) (by kernel_rfl) (by kernel_rfl) (fun _ _ _ h => h) (Or.inl ⟨by go_simp, ?hy⟩) HS ?_
  case hy => intro W hW; go_simp; (try with_reducible rfl)
  try simp only [List.getElem_toArray, List.getElem_cons_zero, List.getElem_cons_succ, Act.put, List.setIfInBounds_toArray, List.set_cons_zero, List.set_cons_succ]
  refine wpAnyH_take (i := 1) (v := ?_) rfl (by kernel_rfl) (by kernel_rfl) (by kernel_rfl) (fun _ _ _ h => h) (Or.inl ⟨by go_simp, ?hy⟩) HS ?_
  case hy => intro W hW; go_simp; (try with_reducible rfl)
  try simp only [List.getElem_toArray, List.getElem_cons_zero, List.getElem_cons_succ, Act.put, List.setIfInBounds_toArray, List.set_cons_zero, List.set_cons_succ]
  refine wpAnyH_take (i := 2) (v := ?_) rfl (by kernel_rfl) (by kernel_rfl) (by kernel_rfl) (fun _ _ _ h => h) (Or.inl ⟨by go_simp, ?hy⟩) HS ?_
  case hy => intro W hW; go_simp; (try with_reducible rfl)
  try simp only [List.getElem_toArray, List.getElem_cons_zero, List.getElem_cons_succ, Act.put, List.setIfInBounds_toArray, List.set_cons_zero, List.set_cons_succ]
  refine wpAnyH_take (i := 3) (v := ?_) rfl (by kernel_rfl) (by kernel_rfl) (by kernel_rfl) (fun _ _ _ h => h) (Or.inl ⟨by go_simp, ?hy⟩) HS ?_
  case hy => intro W hW; go_simp; (try with_reducible rfl)
  try simp only [List.getElem_toArray, List.getElem_cons_zero, List.getElem_cons_succ, Act.put, List.setIfInBounds_toArray, List.set_cons_zero, List.set_cons_succ]
  refine wpAnyH_take (i := 5) (v := ?_) rfl (by kernel_rfl) (by kernel_rfl) (by kernel_rfl) (fun _ _ _ h => h) (Or.inl ⟨by go_simp, ?hy⟩) HS ?_
  case hy => intro W hW; go_simp; (try with_reducible rfl)
  try simp only [List.getElem_toArray, List.getElem_cons_zero, List.getElem_cons_succ, Act.put, List.setIfInBounds_toArray, List.set_cons_zero, List.set_cons_succ]
  refine wpAnyH_take (i := 6) (v := ?_) rfl (by kernel_rfl) (by kernel_rfl) (by kernel_rfl) (fun _ _ _ h => h) (Or.inl ⟨by go_simp, ?hy⟩) HS ?_
  case hy => intro W hW; go_simp; (try with_reducible rfl)
  try simp only [List.getElem_toArray, List.getElem_cons_zero, List.getElem_cons_succ, Act.put, List.setIfInBounds_toArray, List.set_cons_zero, List.set_cons_succ]
  refine wpAnyH_take (i := 8) (v := ?_) rfl (by kernel_rfl) (by kernel_rfl) (by kernel_rfl) (fun _ _ _ h => h) (Or.inl ⟨by go_simp, ?hy⟩) HS ?_
  case hy => intro W hW; go_simp; (try with_reducible rfl)
  try simp only [List.getElem_toArray, List.getElem_cons_zero, List.getElem_cons_succ, Act.put, List.setIfInBounds_toArray, List.set_cons_zero, List.set_cons_succ]
  refine wpAnyH_ready (rs := [4, 7]) (by kernel_rfl) (by simp) ?_
  refine AllReadyH.cons rfl (fun K hK => ?_) (AllReadyH.cons rfl (fun K hK => ?_) AllReadyH.nil)
  · rw [if_pos (by kernel_rfl)]
    simp only [List.getElem_toArray, List.getElem_cons_zero, List.getElem_cons_succ]
    have d := cell_blk ((B0.block kb hkb).trans H1.out) 0
    simp only [List.getElem?_toArray, List.getElem?_cons_zero] at d
    go_simp
    refine hK.out _ _ trivial (fun HS => ?_)
    clear hK d
    try simp only [List.getElem_toArray, List.getElem_cons_zero, List.getElem_cons_succ, Act.put, List.setIfInBounds_toArray, List.set_cons_zero, List.set_cons_succ]
    refine wpAnyH_ready (rs := [7]) (by kernel_rfl) (by simp) ?_
    refine AllReadyH.cons rfl (fun K hK => ?_) AllReadyH.nil
    rw [if_pos (by kernel_rfl)]
    simp only [List.getElem_toArray, List.getElem_cons_zero, List.getElem_cons_succ]
    go_simp
    refine (HG1.out _).mono ?_
    rintro e wa ⟨rfl, hb⟩
    have Bwa : Hid (Below w.heap.size w wa) := Lib.hid (B0.trans (hb.mono B0.size))
    go_simp
    refine hK.out _ _ trivial (fun HS => ?_)
    clear hK hb
    try simp only [List.getElem_toArray, List.getElem_cons_zero, List.getElem_cons_succ, Act.put, List.setIfInBounds_toArray, List.set_cons_zero, List.set_cons_succ]
    refine wpAnyH_ready (rs := [9]) (by kernel_rfl) (by simp) ?_
    refine AllReadyH.cons rfl (fun K hK => ?_) AllReadyH.nil
    rw [if_pos (by kernel_rfl)]
    simp only [List.getElem_toArray, List.getElem_cons_zero, List.getElem_cons_succ]
    go_simp
    refine (HG2.out _).mono ?_
    rintro e wb ⟨rfl, hb⟩
    have Bwb : Hid (Below w.heap.size w wb) := Lib.hid (Bwa.out.trans (hb.mono Bwa.out.size))
    go_simp
    refine hK.out _ _ trivial (fun HS => ?_)
    clear hK hb
    try simp only [List.getElem_toArray, List.getElem_cons_zero, List.getElem_cons_succ, Act.put, List.setIfInBounds_toArray, List.set_cons_zero, List.set_cons_succ]
    refine wpAnyH_take (i := 10) (v := (.agg #[.slice A n c, .int .u8 2, .int .u8 0, .int .u8 1, .int .u8 0, .int .u8 0, .int .u8 0, .int .u8 0, .int .u8 0, .int .u8 0, .int .u8 0, .int .u8 0, .int .u8 0, .int .u8 0, .int .u8 0, .int .u8 0, .int .u8 99, .int .u8 2, .int .u8 0, .int .u8 2, .int .u8 0, .int .u8 0, .int .u8 0, .int .u8 0, .int .u8 0, .int .u8 0, .int .u8 0, .int .u8 0, .int .u8 0, .int .u8 0, .int .u8 0, .int .u8 0, .int .u8 99])) rfl (by kernel_rfl) (by kernel_rfl) (by kernel_rfl) (fun _ _ _ h => h) (Or.inl ⟨by go_simp, fun W hW => by go_simp⟩) HS ?_
    try simp only [List.getElem_toArray, List.getElem_cons_zero, List.getElem_cons_succ, Act.put, List.setIfInBounds_toArray, List.set_cons_zero, List.set_cons_succ]
    refine wpAnyH_take (i := 11) (v := (.iface 103 (.agg #[.slice A n c, .int .u8 2, .int .u8 0, .int .u8 1, .int .u8 0, .int .u8 0, .int .u8 0, .int .u8 0, .int .u8 0, .int .u8 0, .int .u8 0, .int .u8 0, .int .u8 0, .int .u8 0, .int .u8 0, .int .u8 0, .int .u8 99, .int .u8 2, .int .u8 0, .int .u8 2, .int .u8 0, .int .u8 0, .int .u8 0, .int .u8 0, .int .u8 0, .int .u8 0, .int .u8 0, .int .u8 0, .int .u8 0, .int .u8 0, .int .u8 0, .int .u8 0, .int .u8 99]))) rfl (by kernel_rfl) (by kernel_rfl) (by kernel_rfl) (fun _ _ _ h => h) (Or.inl ⟨by go_simp, fun W hW => by go_simp⟩) HS ?_
    try simp only [List.getElem_toArray, List.getElem_cons_zero, List.getElem_cons_succ, Act.put, List.setIfInBounds_toArray, List.set_cons_zero, List.set_cons_succ]
    refine wpAnyH_ready (rs := [12]) (by kernel_rfl) (by simp) ?_
    refine AllReadyH.cons rfl (fun K hK => ?_) AllReadyH.nil
    rw [if_pos (by kernel_rfl)]
    simp only [List.getElem_toArray, List.getElem_cons_zero, List.getElem_cons_succ]
    go_simp
    refine hK.out _ _ trivial (fun HS => ?_)
    clear hK
    try simp only [List.getElem_toArray, List.getElem_cons_zero, List.getElem_cons_succ, Act.put, List.setIfInBounds_toArray, List.set_cons_zero, List.set_cons_succ]
    have HB4 : Hid (Below w.heap.size w (wb.alloc (.cells #[(.iface 103 (.agg #[.slice A n c, .int .u8 2, .int .u8 0, .int .u8 1, .int .u8 0, .int .u8 0, .int .u8 0, .int .u8 0, .int .u8 0, .int .u8 0, .int .u8 0, .int .u8 0, .int .u8 0, .int .u8 0, .int .u8 0, .int .u8 0, .int .u8 99, .int .u8 2, .int .u8 0, .int .u8 2, .int .u8 0, .int .u8 0, .int .u8 0, .int .u8 0, .int .u8 0, .int .u8 0, .int .u8 0, .int .u8 0, .int .u8 0, .int .u8 0, .int .u8 0, .int .u8 0, .int .u8 99]))] 107))) := Lib.hid (Bwb.out.alloc Bwb.out.size _)
    have HN4 : Hid (∀ j u, ([(.iface 103 (.agg #[.slice A n c, .int .u8 2, .int .u8 0, .int .u8 1, .int .u8 0, .int .u8 0, .int .u8 0, .int .u8 0, .int .u8 0, .int .u8 0, .int .u8 0, .int .u8 0, .int .u8 0, .int .u8 0, .int .u8 0, .int .u8 0, .int .u8 99, .int .u8 2, .int .u8 0, .int .u8 2, .int .u8 0, .int .u8 0, .int .u8 0, .int .u8 0, .int .u8 0, .int .u8 0, .int .u8 0, .int .u8 0, .int .u8 0, .int .u8 0, .int .u8 0, .int .u8 0, .int .u8 99]))] : List Value)[j]? = some u → (wb.alloc (.cells #[(.iface 103 (.agg #[.slice A n c, .int .u8 2, .int .u8 0, .int .u8 1, .int .u8 0, .int .u8 0, .int .u8 0, .int .u8 0, .int .u8 0, .int .u8 0, .int .u8 0, .int .u8 0, .int .u8 0, .int .u8 0, .int .u8 0, .int .u8 0, .int .u8 99, .int .u8 2, .int .u8 0, .int .u8 2, .int .u8 0, .int .u8 0, .int .u8 0, .int .u8 0, .int .u8 0, .int .u8 0, .int .u8 0, .int .u8 0, .int .u8 0, .int .u8 0, .int .u8 0, .int .u8 0, .int .u8 99]))] 107)).cell? ((⟨wb.heap.size, 0, none⟩ : Addr).add j) = some u) := Lib.hid (fun j u hj => by
      rw [Addr.add_mid, Nat.zero_add]
      exact (cell_blk (heap_alloc_new wb (.cells #[(.iface 103 (.agg #[.slice A n c, .int .u8 2, .int .u8 0, .int .u8 1, .int .u8 0, .int .u8 0, .int .u8 0, .int .u8 0, .int .u8 0, .int .u8 0, .int .u8 0, .int .u8 0, .int .u8 0, .int .u8 0, .int .u8 0, .int .u8 0, .int .u8 99, .int .u8 2, .int .u8 0, .int .u8 2, .int .u8 0, .int .u8 0, .int .u8 0, .int .u8 0, .int .u8 0, .int .u8 0, .int .u8 0, .int .u8 0, .int .u8 0, .int .u8 0, .int .u8 0, .int .u8 0, .int .u8 99]))] 107)) j).trans (by simpa using hj))
    refine wpAnyH_ready (rs := [13]) (by kernel_rfl) (by simp) ?_
    refine AllReadyH.cons rfl (fun K hK => ?_) AllReadyH.nil
    rw [if_pos (by kernel_rfl)]
    simp only [List.getElem_toArray, List.getElem_cons_zero, List.getElem_cons_succ]
    refine wp_append_own _ (.tmp 11) (.tmp 19) 51 rfl kb 107 i87 .nilIface 1 16 Tryz.underlying51 hi hz0 hz1 hz2 rfl (by decide) _ 1 _ rfl (own_below H2.out HB4.out) ⟨wb.heap.size, 0, none⟩ 1 1 [(.iface 103 (.agg #[.slice A n c, .int .u8 2, .int .u8 0, .int .u8 1, .int .u8 0, .int .u8 0, .int .u8 0, .int .u8 0, .int .u8 0, .int .u8 0, .int .u8 0, .int .u8 0, .int .u8 0, .int .u8 0, .int .u8 0, .int .u8 0, .int .u8 99, .int .u8 2, .int .u8 0, .int .u8 2, .int .u8 0, .int .u8 0, .int .u8 0, .int .u8 0, .int .u8 0, .int .u8 0, .int .u8 0, .int .u8 0, .int .u8 0, .int .u8 0, .int .u8 0, .int .u8 0, .int .u8 99]))] rfl rfl HN4.out (by intro u hu; rw [List.mem_singleton] at hu; subst hu; rfl) (by decide) (by decide) (Nat.le_trans (Nat.le_of_lt hkb) HB4.out.size) ?_
    intro v' w7 ho hg _
    have hb1 : w7.heap[kb]? = some (.cells #[.slice q 1 cq] 53 (0, 0)) := by
      refine (hg.block kb (Nat.lt_of_lt_of_le hkb HB4.out.size) (fun e9 => ?_)).trans ((HB4.out.block kb hkb).trans H1.out)
      have e : some kb = (Value.slice q 1 cq).ownBlock := e9
      rcases own_blk H2.out H1.out (by decide) with h | h
      · rw [h] at e; cases e
      · exact h e.symm
    have hB7 : Below kb w w7 := Below.grown' (HB4.out.mono (by omega)) hg (Nat.le_trans (Nat.le_of_lt hkb) HB4.out.size) (fun k hk => (H2.out.lt k hk).1)
    obtain ⟨q2, cq2, rfl, -⟩ := own_slice2 ho
    have HT := Lib.hid (Turned.setCell hb1 0 (.slice q2 2 cq2))
    have HO : Hid (w7.ownsRow kb 107 1 (.slice q2 2 cq2) 2 [(.iface 100 (.agg #[.slice A0 n0 c0, .int .u8 1, .int .u8 254])), (.iface 103 (.agg #[.slice A n c, .int .u8 2, .int .u8 0, .int .u8 1, .int .u8 0, .int .u8 0, .int .u8 0, .int .u8 0, .int .u8 0, .int .u8 0, .int .u8 0, .int .u8 0, .int .u8 0, .int .u8 0, .int .u8 0, .int .u8 0, .int .u8 99, .int .u8 2, .int .u8 0, .int .u8 2, .int .u8 0, .int .u8 0, .int .u8 0, .int .u8 0, .int .u8 0, .int .u8 0, .int .u8 0, .int .u8 0, .int .u8 0, .int .u8 0, .int .u8 0, .int .u8 0, .int .u8 99]))]) := Lib.hid ho
    have HB7 := Lib.hid hB7; have HB1 := Lib.hid hb1
    clear hg ho hB7 hb1
    go_simp
    refine hK.out _ _ trivial (fun HS => ?_)
    clear hK
    try simp only [List.getElem_toArray, List.getElem_cons_zero, List.getElem_cons_succ, Act.put, List.setIfInBounds_toArray, List.set_cons_zero, List.set_cons_succ]
    refine wpAnyH_take (i := 14) (v := ?_) rfl (by kernel_rfl) (by kernel_rfl) (by kernel_rfl) (fun _ _ _ h => h) (Or.inl ⟨by go_simp, ?hy⟩) HS ?_
    case hy => intro W hW; go_simp; (try with_reducible rfl)
    try simp only [List.getElem_toArray, List.getElem_cons_zero, List.getElem_cons_succ, Act.put, List.setIfInBounds_toArray, List.set_cons_zero, List.set_cons_succ]
    refine wpAnyH_take (i := 15) (v := (.pointer (some ⟨kb, 0, none⟩))) rfl (by kernel_rfl) (by kernel_rfl) (by kernel_rfl) (fun _ _ _ h => h) (Or.inl ⟨by go_simp, fun W hW => by go_simp⟩) HS ?_
    try simp only [List.getElem_toArray, List.getElem_cons_zero, List.getElem_cons_succ, Act.put, List.setIfInBounds_toArray, List.set_cons_zero, List.set_cons_succ]
    refine wpAnyH_ready (rs := [16]) (by kernel_rfl) (by simp) ?_
    refine AllReadyH.cons rfl (fun K hK => ?_) AllReadyH.nil
    rw [if_pos (by kernel_rfl)]
    simp only [List.getElem_toArray, List.getElem_cons_zero, List.getElem_cons_succ]
    have d0 := cell_blk HB1.out 0
    simp only [List.getElem?_toArray, List.getElem?_cons_zero] at d0
    have f0 := frozen_blk HB1.out 0
    go_simp
    refine hK.out _ _ trivial (fun HS => ?_)
    clear hK d0 f0
    refine wpAnyH_done (by kernel_rfl) ?_ _
    go_wp2_with fail
    go_end0
    refine ⟨rfl, ⟨_, HT.out.get (lt_of_blk HB1.out), ?_⟩, HB7.out.trans (HT.out.below (Nat.le_refl _))⟩
    exact HO.out.kept HT.out.grown (own_blk HO.out HB1.out (by decide))
  · rw [if_pos (by kernel_rfl)]
    simp only [List.getElem_toArray, List.getElem_cons_zero, List.getElem_cons_succ]
    go_simp
    refine (HG1.out _).mono ?_
    rintro e wa ⟨rfl, hb⟩
    have Bwa : Hid (Below w.heap.size w wa) := Lib.hid (B0.trans (hb.mono B0.size))
    go_simp
    refine hK.out _ _ trivial (fun HS => ?_)
    clear hK hb
    try simp only [List.getElem_toArray, List.getElem_cons_zero, List.getElem_cons_succ, Act.put, List.setIfInBounds_toArray, List.set_cons_zero, List.set_cons_succ]
    refine wpAnyH_ready (rs := [4, 9]) (by kernel_rfl) (by simp) ?_
    refine AllReadyH.cons rfl (fun K hK => ?_) (AllReadyH.cons rfl (fun K hK => ?_) AllReadyH.nil)
    · rw [if_pos (by kernel_rfl)]
      simp only [List.getElem_toArray, List.getElem_cons_zero, List.getElem_cons_succ]
      have d := cell_blk ((Bwa.out.block kb hkb).trans H1.out) 0
      simp only [List.getElem?_toArray, List.getElem?_cons_zero] at d
      go_simp
      refine hK.out _ _ trivial (fun HS => ?_)
      clear hK d
      try simp only [List.getElem_toArray, List.getElem_cons_zero, List.getElem_cons_succ, Act.put, List.setIfInBounds_toArray, List.set_cons_zero, List.set_cons_succ]
      refine wpAnyH_ready (rs := [9]) (by kernel_rfl) (by simp) ?_
      refine AllReadyH.cons rfl (fun K hK => ?_) AllReadyH.nil
      rw [if_pos (by kernel_rfl)]
      simp only [List.getElem_toArray, List.getElem_cons_zero, List.getElem_cons_succ]
      go_simp
      refine (HG2.out _).mono ?_
      rintro e wb ⟨rfl, hb⟩
      have Bwb : Hid (Below w.heap.size w wb) := Lib.hid (Bwa.out.trans (hb.mono Bwa.out.size))
      go_simp
      refine hK.out _ _ trivial (fun HS => ?_)
      clear hK hb
      try simp only [List.getElem_toArray, List.getElem_cons_zero, List.getElem_cons_succ, Act.put, List.setIfInBounds_toArray, List.set_cons_zero, List.set_cons_succ]
      refine wpAnyH_take (i := 10) (v := (.agg #[.slice A n c, .int .u8 2, .int .u8 0, .int .u8 1, .int .u8 0, .int .u8 0, .int .u8 0, .int .u8 0, .int .u8 0, .int .u8 0, .int .u8 0, .int .u8 0, .int .u8 0, .int .u8 0, .int .u8 0, .int .u8 0, .int .u8 99, .int .u8 2, .int .u8 0, .int .u8 2, .int .u8 0, .int .u8 0, .int .u8 0, .int .u8 0, .int .u8 0, .int .u8 0, .int .u8 0, .int .u8 0, .int .u8 0, .int .u8 0, .int .u8 0, .int .u8 0, .int .u8 99])) rfl (by kernel_rfl) (by kernel_rfl) (by kernel_rfl) (fun _ _ _ h => h) (Or.inl ⟨by go_simp, fun W hW => by go_simp⟩) HS ?_
      try simp only [List.getElem_toArray, List.getElem_cons_zero, List.getElem_cons_succ, Act.put, List.setIfInBounds_toArray, List.set_cons_zero, List.set_cons_succ]
      refine wpAnyH_take (i := 11) (v := (.iface 103 (.agg #[.slice A n c, .int .u8 2, .int .u8 0, .int .u8 1, .int .u8 0, .int .u8 0, .int .u8 0, .int .u8 0, .int .u8 0, .int .u8 0, .int .u8 0, .int .u8 0, .int .u8 0, .int .u8 0, .int .u8 0, .int .u8 0, .int .u8 99, .int .u8 2, .int .u8 0, .int .u8 2, .int .u8 0, .int .u8 0, .int .u8 0, .int .u8 0, .int .u8 0, .int .u8 0, .int .u8 0, .int .u8 0, .int .u8 0, .int .u8 0, .int .u8 0, .int .u8 0, .int .u8 99]))) rfl (by kernel_rfl) (by kernel_rfl) (by kernel_rfl) (fun _ _ _ h => h) (Or.inl ⟨by go_simp, fun W hW => by go_simp⟩) HS ?_
      try simp only [List.getElem_toArray, List.getElem_cons_zero, List.getElem_cons_succ, Act.put, List.setIfInBounds_toArray, List.set_cons_zero, List.set_cons_succ]
      refine wpAnyH_ready (rs := [12]) (by kernel_rfl) (by simp) ?_
      refine AllReadyH.cons rfl (fun K hK => ?_) AllReadyH.nil
      rw [if_pos (by kernel_rfl)]
      simp only [List.getElem_toArray, List.getElem_cons_zero, List.getElem_cons_succ]
      go_simp
      refine hK.out _ _ trivial (fun HS => ?_)
      clear hK
      try simp only [List.getElem_toArray, List.getElem_cons_zero, List.getElem_cons_succ, Act.put, List.setIfInBounds_toArray, List.set_cons_zero, List.set_cons_succ]
      have HB4 : Hid (Below w.heap.size w (wb.alloc (.cells #[(.iface 103 (.agg #[.slice A n c, .int .u8 2, .int .u8 0, .int .u8 1, .int .u8 0, .int .u8 0, .int .u8 0, .int .u8 0, .int .u8 0, .int .u8 0, .int .u8 0, .int .u8 0, .int .u8 0, .int .u8 0, .int .u8 0, .int .u8 0, .int .u8 99, .int .u8 2, .int .u8 0, .int .u8 2, .int .u8 0, .int .u8 0, .int .u8 0, .int .u8 0, .int .u8 0, .int .u8 0, .int .u8 0, .int .u8 0, .int .u8 0, .int .u8 0, .int .u8 0, .int .u8 0, .int .u8 99]))] 107))) := Lib.hid (Bwb.out.alloc Bwb.out.size _)
      have HN4 : Hid (∀ j u, ([(.iface 103 (.agg #[.slice A n c, .int .u8 2, .int .u8 0, .int .u8 1, .int .u8 0, .int .u8 0, .int .u8 0, .int .u8 0, .int .u8 0, .int .u8 0, .int .u8 0, .int .u8 0, .int .u8 0, .int .u8 0, .int .u8 0, .int .u8 0, .int .u8 99, .int .u8 2, .int .u8 0, .int .u8 2, .int .u8 0, .int .u8 0, .int .u8 0, .int .u8 0, .int .u8 0, .int .u8 0, .int .u8 0, .int .u8 0, .int .u8 0, .int .u8 0, .int .u8 0, .int .u8 0, .int .u8 99]))] : List Value)[j]? = some u → (wb.alloc (.cells #[(.iface 103 (.agg #[.slice A n c, .int .u8 2, .int .u8 0, .int .u8 1, .int .u8 0, .int .u8 0, .int .u8 0, .int .u8 0, .int .u8 0, .int .u8 0, .int .u8 0, .int .u8 0, .int .u8 0, .int .u8 0, .int .u8 0, .int .u8 0, .int .u8 99, .int .u8 2, .int .u8 0, .int .u8 2, .int .u8 0, .int .u8 0, .int .u8 0, .int .u8 0, .int .u8 0, .int .u8 0, .int .u8 0, .int .u8 0, .int .u8 0, .int .u8 0, .int .u8 0, .int .u8 0, .int .u8 99]))] 107)).cell? ((⟨wb.heap.size, 0, none⟩ : Addr).add j) = some u) := Lib.hid (fun j u hj => by
        rw [Addr.add_mid, Nat.zero_add]
        exact (cell_blk (heap_alloc_new wb (.cells #[(.iface 103 (.agg #[.slice A n c, .int .u8 2, .int .u8 0, .int .u8 1, .int .u8 0, .int .u8 0, .int .u8 0, .int .u8 0, .int .u8 0, .int .u8 0, .int .u8 0, .int .u8 0, .int .u8 0, .int .u8 0, .int .u8 0, .int .u8 0, .int .u8 99, .int .u8 2, .int .u8 0, .int .u8 2, .int .u8 0, .int .u8 0, .int .u8 0, .int .u8 0, .int .u8 0, .int .u8 0, .int .u8 0, .int .u8 0, .int .u8 0, .int .u8 0, .int .u8 0, .int .u8 0, .int .u8 99]))] 107)) j).trans (by simpa using hj))
      refine wpAnyH_ready (rs := [13]) (by kernel_rfl) (by simp) ?_
      refine AllReadyH.cons rfl (fun K hK => ?_) AllReadyH.nil
      rw [if_pos (by kernel_rfl)]
      simp only [List.getElem_toArray, List.getElem_cons_zero, List.getElem_cons_succ]
      refine wp_append_own _ (.tmp 11) (.tmp 19) 51 rfl kb 107 i87 .nilIface 1 16 Tryz.underlying51 hi hz0 hz1 hz2 rfl (by decide) _ 1 _ rfl (own_below H2.out HB4.out) ⟨wb.heap.size, 0, none⟩ 1 1 [(.iface 103 (.agg #[.slice A n c, .int .u8 2, .int .u8 0, .int .u8 1, .int .u8 0, .int .u8 0, .int .u8 0, .int .u8 0, .int .u8 0, .int .u8 0, .int .u8 0, .int .u8 0, .int .u8 0, .int .u8 0, .int .u8 0, .int .u8 0, .int .u8 99, .int .u8 2, .int .u8 0, .int .u8 2, .int .u8 0, .int .u8 0, .int .u8 0, .int .u8 0, .int .u8 0, .int .u8 0, .int .u8 0, .int .u8 0, .int .u8 0, .int .u8 0, .int .u8 0, .int .u8 0, .int .u8 99]))] rfl rfl HN4.out (by intro u hu; rw [List.mem_singleton] at hu; subst hu; rfl) (by decide) (by decide) (Nat.le_trans (Nat.le_of_lt hkb) HB4.out.size) ?_
      intro v' w7 ho hg _
      have hb1 : w7.heap[kb]? = some (.cells #[.slice q 1 cq] 53 (0, 0)) := by
        refine (hg.block kb (Nat.lt_of_lt_of_le hkb HB4.out.size) (fun e9 => ?_)).trans ((HB4.out.block kb hkb).trans H1.out)
        have e : some kb = (Value.slice q 1 cq).ownBlock := e9
        rcases own_blk H2.out H1.out (by decide) with h | h
        · rw [h] at e; cases e
        · exact h e.symm
      have hB7 : Below kb w w7 := Below.grown' (HB4.out.mono (by omega)) hg (Nat.le_trans (Nat.le_of_lt hkb) HB4.out.size) (fun k hk => (H2.out.lt k hk).1)
      obtain ⟨q2, cq2, rfl, -⟩ := own_slice2 ho
      have HT := Lib.hid (Turned.setCell hb1 0 (.slice q2 2 cq2))
      have HO : Hid (w7.ownsRow kb 107 1 (.slice q2 2 cq2) 2 [(.iface 100 (.agg #[.slice A0 n0 c0, .int .u8 1, .int .u8 254])), (.iface 103 (.agg #[.slice A n c, .int .u8 2, .int .u8 0, .int .u8 1, .int .u8 0, .int .u8 0, .int .u8 0, .int .u8 0, .int .u8 0, .int .u8 0, .int .u8 0, .int .u8 0, .int .u8 0, .int .u8 0, .int .u8 0, .int .u8 0, .int .u8 99, .int .u8 2, .int .u8 0, .int .u8 2, .int .u8 0, .int .u8 0, .int .u8 0, .int .u8 0, .int .u8 0, .int .u8 0, .int .u8 0, .int .u8 0, .int .u8 0, .int .u8 0, .int .u8 0, .int .u8 0, .int .u8 99]))]) := Lib.hid ho
      have HB7 := Lib.hid hB7; have HB1 := Lib.hid hb1
      clear hg ho hB7 hb1
      go_simp
      refine hK.out _ _ trivial (fun HS => ?_)
      clear hK
      try simp only [List.getElem_toArray, List.getElem_cons_zero, List.getElem_cons_succ, Act.put, List.setIfInBounds_toArray, List.set_cons_zero, List.set_cons_succ]
      refine wpAnyH_take (i := 14) (v := ?_) rfl (by kernel_rfl) (by kernel_rfl) (by kernel_rfl) (fun _ _ _ h => h) (Or.inl ⟨by go_simp, ?hy⟩) HS ?_
      case hy => intro W hW; go_simp; (try with_reducible rfl)
      try simp only [List.getElem_toArray, List.getElem_cons_zero, List.getElem_cons_succ, Act.put, List.setIfInBounds_toArray, List.set_cons_zero, List.set_cons_succ]
      refine wpAnyH_take (i := 15) (v := (.pointer (some ⟨kb, 0, none⟩))) rfl (by kernel_rfl) (by kernel_rfl) (by kernel_rfl) (fun _ _ _ h => h) (Or.inl ⟨by go_simp, fun W hW => by go_simp⟩) HS ?_
      try simp only [List.getElem_toArray, List.getElem_cons_zero, List.getElem_cons_succ, Act.put, List.setIfInBounds_toArray, List.set_cons_zero, List.set_cons_succ]
      refine wpAnyH_ready (rs := [16]) (by kernel_rfl) (by simp) ?_
      refine AllReadyH.cons rfl (fun K hK => ?_) AllReadyH.nil
      rw [if_pos (by kernel_rfl)]
      simp only [List.getElem_toArray, List.getElem_cons_zero, List.getElem_cons_succ]
      have d0 := cell_blk HB1.out 0
      simp only [List.getElem?_toArray, List.getElem?_cons_zero] at d0
      have f0 := frozen_blk HB1.out 0
      go_simp
      refine hK.out _ _ trivial (fun HS => ?_)
      clear hK d0 f0
      refine wpAnyH_done (by kernel_rfl) ?_ _
      go_wp2_with fail
      go_end0
      refine ⟨rfl, ⟨_, HT.out.get (lt_of_blk HB1.out), ?_⟩, HB7.out.trans (HT.out.below (Nat.le_refl _))⟩
      exact HO.out.kept HT.out.grown (own_blk HO.out HB1.out (by decide))
    · rw [if_pos (by kernel_rfl)]
      simp only [List.getElem_toArray, List.getElem_cons_zero, List.getElem_cons_succ]
      go_simp
      refine (HG2.out _).mono ?_
      rintro e wb ⟨rfl, hb⟩
      have Bwb : Hid (Below w.heap.size w wb) := Lib.hid (Bwa.out.trans (hb.mono Bwa.out.size))
      go_simp
      refine hK.out _ _ trivial (fun HS => ?_)
      clear hK hb
      try simp only [List.getElem_toArray, List.getElem_cons_zero, List.getElem_cons_succ, Act.put, List.setIfInBounds_toArray, List.set_cons_zero, List.set_cons_succ]
      refine wpAnyH_take (i := 10) (v := (.agg #[.slice A n c, .int .u8 2, .int .u8 0, .int .u8 1, .int .u8 0, .int .u8 0, .int .u8 0, .int .u8 0, .int .u8 0, .int .u8 0, .int .u8 0, .int .u8 0, .int .u8 0, .int .u8 0, .int .u8 0, .int .u8 0, .int .u8 99, .int .u8 2, .int .u8 0, .int .u8 2, .int .u8 0, .int .u8 0, .int .u8 0, .int .u8 0, .int .u8 0, .int .u8 0, .int .u8 0, .int .u8 0, .int .u8 0, .int .u8 0, .int .u8 0, .int .u8 0, .int .u8 99])) rfl (by kernel_rfl) (by kernel_rfl) (by kernel_rfl) (fun _ _ _ h => h) (Or.inl ⟨by go_simp, fun W hW => by go_simp⟩) HS ?_
      try simp only [List.getElem_toArray, List.getElem_cons_zero, List.getElem_cons_succ, Act.put, List.setIfInBounds_toArray, List.set_cons_zero, List.set_cons_succ]
      refine wpAnyH_take (i := 11) (v := (.iface 103 (.agg #[.slice A n c, .int .u8 2, .int .u8 0, .int .u8 1, .int .u8 0, .int .u8 0, .int .u8 0, .int .u8 0, .int .u8 0, .int .u8 0, .int .u8 0, .int .u8 0, .int .u8 0, .int .u8 0, .int .u8 0, .int .u8 0, .int .u8 99, .int .u8 2, .int .u8 0, .int .u8 2, .int .u8 0, .int .u8 0, .int .u8 0, .int .u8 0, .int .u8 0, .int .u8 0, .int .u8 0, .int .u8 0, .int .u8 0, .int .u8 0, .int .u8 0, .int .u8 0, .int .u8 99]))) rfl (by kernel_rfl) (by kernel_rfl) (by kernel_rfl) (fun _ _ _ h => h) (Or.inl ⟨by go_simp, fun W hW => by go_simp⟩) HS ?_
      try simp only [List.getElem_toArray, List.getElem_cons_zero, List.getElem_cons_succ, Act.put, List.setIfInBounds_toArray, List.set_cons_zero, List.set_cons_succ]
      refine wpAnyH_ready (rs := [4, 12]) (by kernel_rfl) (by simp) ?_
      refine AllReadyH.cons rfl (fun K hK => ?_) (AllReadyH.cons rfl (fun K hK => ?_) AllReadyH.nil)
      · rw [if_pos (by kernel_rfl)]
        simp only [List.getElem_toArray, List.getElem_cons_zero, List.getElem_cons_succ]
        have d := cell_blk ((Bwb.out.block kb hkb).trans H1.out) 0
        simp only [List.getElem?_toArray, List.getElem?_cons_zero] at d
        go_simp
        refine hK.out _ _ trivial (fun HS => ?_)
        clear hK d
        try simp only [List.getElem_toArray, List.getElem_cons_zero, List.getElem_cons_succ, Act.put, List.setIfInBounds_toArray, List.set_cons_zero, List.set_cons_succ]
        refine wpAnyH_ready (rs := [12]) (by kernel_rfl) (by simp) ?_
        refine AllReadyH.cons rfl (fun K hK => ?_) AllReadyH.nil
        rw [if_pos (by kernel_rfl)]
        simp only [List.getElem_toArray, List.getElem_cons_zero, List.getElem_cons_succ]
        go_simp
        refine hK.out _ _ trivial (fun HS => ?_)
        clear hK
        try simp only [List.getElem_toArray, List.getElem_cons_zero, List.getElem_cons_succ, Act.put, List.setIfInBounds_toArray, List.set_cons_zero, List.set_cons_succ]
        have HB4 : Hid (Below w.heap.size w (wb.alloc (.cells #[(.iface 103 (.agg #[.slice A n c, .int .u8 2, .int .u8 0, .int .u8 1, .int .u8 0, .int .u8 0, .int .u8 0, .int .u8 0, .int .u8 0, .int .u8 0, .int .u8 0, .int .u8 0, .int .u8 0, .int .u8 0, .int .u8 0, .int .u8 0, .int .u8 99, .int .u8 2, .int .u8 0, .int .u8 2, .int .u8 0, .int .u8 0, .int .u8 0, .int .u8 0, .int .u8 0, .int .u8 0, .int .u8 0, .int .u8 0, .int .u8 0, .int .u8 0, .int .u8 0, .int .u8 0, .int .u8 99]))] 107))) := Lib.hid (Bwb.out.alloc Bwb.out.size _)
        have HN4 : Hid (∀ j u, ([(.iface 103 (.agg #[.slice A n c, .int .u8 2, .int .u8 0, .int .u8 1, .int .u8 0, .int .u8 0, .int .u8 0, .int .u8 0, .int .u8 0, .int .u8 0, .int .u8 0, .int .u8 0, .int .u8 0, .int .u8 0, .int .u8 0, .int .u8 0, .int .u8 99, .int .u8 2, .int .u8 0, .int .u8 2, .int .u8 0, .int .u8 0, .int .u8 0, .int .u8 0, .int .u8 0, .int .u8 0, .int .u8 0, .int .u8 0, .int .u8 0, .int .u8 0, .int .u8 0, .int .u8 0, .int .u8 99]))] : List Value)[j]? = some u → (wb.alloc (.cells #[(.iface 103 (.agg #[.slice A n c, .int .u8 2, .int .u8 0, .int .u8 1, .int .u8 0, .int .u8 0, .int .u8 0, .int .u8 0, .int .u8 0, .int .u8 0, .int .u8 0, .int .u8 0, .int .u8 0, .int .u8 0, .int .u8 0, .int .u8 0, .int .u8 99, .int .u8 2, .int .u8 0, .int .u8 2, .int .u8 0, .int .u8 0, .int .u8 0, .int .u8 0, .int .u8 0, .int .u8 0, .int .u8 0, .int .u8 0, .int .u8 0, .int .u8 0, .int .u8 0, .int .u8 0, .int .u8 99]))] 107)).cell? ((⟨wb.heap.size, 0, none⟩ : Addr).add j) = some u) := Lib.hid (fun j u hj => by
          rw [Addr.add_mid, Nat.zero_add]
          exact (cell_blk (heap_alloc_new wb (.cells #[(.iface 103 (.agg #[.slice A n c, .int .u8 2, .int .u8 0, .int .u8 1, .int .u8 0, .int .u8 0, .int .u8 0, .int .u8 0, .int .u8 0, .int .u8 0, .int .u8 0, .int .u8 0, .int .u8 0, .int .u8 0, .int .u8 0, .int .u8 0, .int .u8 99, .int .u8 2, .int .u8 0, .int .u8 2, .int .u8 0, .int .u8 0, .int .u8 0, .int .u8 0, .int .u8 0, .int .u8 0, .int .u8 0, .int .u8 0, .int .u8 0, .int .u8 0, .int .u8 0, .int .u8 0, .int .u8 99]))] 107)) j).trans (by simpa using hj))
        refine wpAnyH_ready (rs := [13]) (by kernel_rfl) (by simp) ?_
        refine AllReadyH.cons rfl (fun K hK => ?_) AllReadyH.nil
        rw [if_pos (by kernel_rfl)]
        simp only [List.getElem_toArray, List.getElem_cons_zero, List.getElem_cons_succ]
        refine wp_append_own _ (.tmp 11) (.tmp 19) 51 rfl kb 107 i87 .nilIface 1 16 Tryz.underlying51 hi hz0 hz1 hz2 rfl (by decide) _ 1 _ rfl (own_below H2.out HB4.out) ⟨wb.heap.size, 0, none⟩ 1 1 [(.iface 103 (.agg #[.slice A n c, .int .u8 2, .int .u8 0, .int .u8 1, .int .u8 0, .int .u8 0, .int .u8 0, .int .u8 0, .int .u8 0, .int .u8 0, .int .u8 0, .int .u8 0, .int .u8 0, .int .u8 0, .int .u8 0, .int .u8 0, .int .u8 99, .int .u8 2, .int .u8 0, .int .u8 2, .int .u8 0, .int .u8 0, .int .u8 0, .int .u8 0, .int .u8 0, .int .u8 0, .int .u8 0, .int .u8 0, .int .u8 0, .int .u8 0, .int .u8 0, .int .u8 0, .int .u8 99]))] rfl rfl HN4.out (by intro u hu; rw [List.mem_singleton] at hu; subst hu; rfl) (by decide) (by decide) (Nat.le_trans (Nat.le_of_lt hkb) HB4.out.size) ?_
        intro v' w7 ho hg _
        have hb1 : w7.heap[kb]? = some (.cells #[.slice q 1 cq] 53 (0, 0)) := by
          refine (hg.block kb (Nat.lt_of_lt_of_le hkb HB4.out.size) (fun e9 => ?_)).trans ((HB4.out.block kb hkb).trans H1.out)
          have e : some kb = (Value.slice q 1 cq).ownBlock := e9
          rcases own_blk H2.out H1.out (by decide) with h | h
          · rw [h] at e; cases e
          · exact h e.symm
        have hB7 : Below kb w w7 := Below.grown' (HB4.out.mono (by omega)) hg (Nat.le_trans (Nat.le_of_lt hkb) HB4.out.size) (fun k hk => (H2.out.lt k hk).1)
        obtain ⟨q2, cq2, rfl, -⟩ := own_slice2 ho
        have HT := Lib.hid (Turned.setCell hb1 0 (.slice q2 2 cq2))
        have HO : Hid (w7.ownsRow kb 107 1 (.slice q2 2 cq2) 2 [(.iface 100 (.agg #[.slice A0 n0 c0, .int .u8 1, .int .u8 254])), (.iface 103 (.agg #[.slice A n c, .int .u8 2, .int .u8 0, .int .u8 1, .int .u8 0, .int .u8 0, .int .u8 0, .int .u8 0, .int .u8 0, .int .u8 0, .int .u8 0, .int .u8 0, .int .u8 0, .int .u8 0, .int .u8 0, .int .u8 0, .int .u8 99, .int .u8 2, .int .u8 0, .int .u8 2, .int .u8 0, .int .u8 0, .int .u8 0, .int .u8 0, .int .u8 0, .int .u8 0, .int .u8 0, .int .u8 0, .int .u8 0, .int .u8 0, .int .u8 0, .int .u8 0, .int .u8 99]))]) := Lib.hid ho
        have HB7 := Lib.hid hB7; have HB1 := Lib.hid hb1
        clear hg ho hB7 hb1
        go_simp
        refine hK.out _ _ trivial (fun HS => ?_)
        clear hK
        try simp only [List.getElem_toArray, List.getElem_cons_zero, List.getElem_cons_succ, Act.put, List.setIfInBounds_toArray, List.set_cons_zero, List.set_cons_succ]
        refine wpAnyH_take (i := 14) (v := ?_) rfl (by kernel_rfl) (by kernel_rfl) (by kernel_rfl) (fun _ _ _ h => h) (Or.inl ⟨by go_simp, ?hy⟩) HS ?_
        case hy => intro W hW; go_simp; (try with_reducible rfl)
        try simp only [List.getElem_toArray, List.getElem_cons_zero, List.getElem_cons_succ, Act.put, List.setIfInBounds_toArray, List.set_cons_zero, List.set_cons_succ]
        refine wpAnyH_take (i := 15) (v := (.pointer (some ⟨kb, 0, none⟩))) rfl (by kernel_rfl) (by kernel_rfl) (by kernel_rfl) (fun _ _ _ h => h) (Or.inl ⟨by go_simp, fun W hW => by go_simp⟩) HS ?_
        try simp only [List.getElem_toArray, List.getElem_cons_zero, List.getElem_cons_succ, Act.put, List.setIfInBounds_toArray, List.set_cons_zero, List.set_cons_succ]
        refine wpAnyH_ready (rs := [16]) (by kernel_rfl) (by simp) ?_
        refine AllReadyH.cons rfl (fun K hK => ?_) AllReadyH.nil
        rw [if_pos (by kernel_rfl)]
        simp only [List.getElem_toArray, List.getElem_cons_zero, List.getElem_cons_succ]
        have d0 := cell_blk HB1.out 0
        simp only [List.getElem?_toArray, List.getElem?_cons_zero] at d0
        have f0 := frozen_blk HB1.out 0
        go_simp
        refine hK.out _ _ trivial (fun HS => ?_)
        clear hK d0 f0
        refine wpAnyH_done (by kernel_rfl) ?_ _
        go_wp2_with fail
        go_end0
        refine ⟨rfl, ⟨_, HT.out.get (lt_of_blk HB1.out), ?_⟩, HB7.out.trans (HT.out.below (Nat.le_refl _))⟩
        exact HO.out.kept HT.out.grown (own_blk HO.out HB1.out (by decide))
      · rw [if_pos (by kernel_rfl)]
        simp only [List.getElem_toArray, List.getElem_cons_zero, List.getElem_cons_succ]
        go_simp
        refine hK.out _ _ trivial (fun HS => ?_)
        clear hK
        try simp only [List.getElem_toArray, List.getElem_cons_zero, List.getElem_cons_succ, Act.put, List.setIfInBounds_toArray, List.set_cons_zero, List.set_cons_succ]
        have HB4 : Hid (Below w.heap.size w (wb.alloc (.cells #[(.iface 103 (.agg #[.slice A n c, .int .u8 2, .int .u8 0, .int .u8 1, .int .u8 0, .int .u8 0, .int .u8 0, .int .u8 0, .int .u8 0, .int .u8 0, .int .u8 0, .int .u8 0, .int .u8 0, .int .u8 0, .int .u8 0, .int .u8 0, .int .u8 99, .int .u8 2, .int .u8 0, .int .u8 2, .int .u8 0, .int .u8 0, .int .u8 0, .int .u8 0, .int .u8 0, .int .u8 0, .int .u8 0, .int .u8 0, .int .u8 0, .int .u8 0, .int .u8 0, .int .u8 0, .int .u8 99]))] 107))) := Lib.hid (Bwb.out.alloc Bwb.out.size _)
        have HN4 : Hid (∀ j u, ([(.iface 103 (.agg #[.slice A n c, .int .u8 2, .int .u8 0, .int .u8 1, .int .u8 0, .int .u8 0, .int .u8 0, .int .u8 0, .int .u8 0, .int .u8 0, .int .u8 0, .int .u8 0, .int .u8 0, .int .u8 0, .int .u8 0, .int .u8 0, .int .u8 99, .int .u8 2, .int .u8 0, .int .u8 2, .int .u8 0, .int .u8 0, .int .u8 0, .int .u8 0, .int .u8 0, .int .u8 0, .int .u8 0, .int .u8 0, .int .u8 0, .int .u8 0, .int .u8 0, .int .u8 0, .int .u8 99]))] : List Value)[j]? = some u → (wb.alloc (.cells #[(.iface 103 (.agg #[.slice A n c, .int .u8 2, .int .u8 0, .int .u8 1, .int .u8 0, .int .u8 0, .int .u8 0, .int .u8 0, .int .u8 0, .int .u8 0, .int .u8 0, .int .u8 0, .int .u8 0, .int .u8 0, .int .u8 0, .int .u8 0, .int .u8 99, .int .u8 2, .int .u8 0, .int .u8 2, .int .u8 0, .int .u8 0, .int .u8 0, .int .u8 0, .int .u8 0, .int .u8 0, .int .u8 0, .int .u8 0, .int .u8 0, .int .u8 0, .int .u8 0, .int .u8 0, .int .u8 99]))] 107)).cell? ((⟨wb.heap.size, 0, none⟩ : Addr).add j) = some u) := Lib.hid (fun j u hj => by
          rw [Addr.add_mid, Nat.zero_add]
          exact (cell_blk (heap_alloc_new wb (.cells #[(.iface 103 (.agg #[.slice A n c, .int .u8 2, .int .u8 0, .int .u8 1, .int .u8 0, .int .u8 0, .int .u8 0, .int .u8 0, .int .u8 0, .int .u8 0, .int .u8 0, .int .u8 0, .int .u8 0, .int .u8 0, .int .u8 0, .int .u8 0, .int .u8 99, .int .u8 2, .int .u8 0, .int .u8 2, .int .u8 0, .int .u8 0, .int .u8 0, .int .u8 0, .int .u8 0, .int .u8 0, .int .u8 0, .int .u8 0, .int .u8 0, .int .u8 0, .int .u8 0, .int .u8 0, .int .u8 99]))] 107)) j).trans (by simpa using hj))
        refine wpAnyH_ready (rs := [4]) (by kernel_rfl) (by simp) ?_
        refine AllReadyH.cons rfl (fun K hK => ?_) AllReadyH.nil
        rw [if_pos (by kernel_rfl)]
        simp only [List.getElem_toArray, List.getElem_cons_zero, List.getElem_cons_succ]
        have d := cell_blk ((HB4.out.block kb hkb).trans H1.out) 0
        simp only [List.getElem?_toArray, List.getElem?_cons_zero] at d
        go_simp
        refine hK.out _ _ trivial (fun HS => ?_)
        clear hK d
        try simp only [List.getElem_toArray, List.getElem_cons_zero, List.getElem_cons_succ, Act.put, List.setIfInBounds_toArray, List.set_cons_zero, List.set_cons_succ]
        refine wpAnyH_ready (rs := [13]) (by kernel_rfl) (by simp) ?_
        refine AllReadyH.cons rfl (fun K hK => ?_) AllReadyH.nil
        rw [if_pos (by kernel_rfl)]
        simp only [List.getElem_toArray, List.getElem_cons_zero, List.getElem_cons_succ]
        refine wp_append_own _ (.tmp 11) (.tmp 19) 51 rfl kb 107 i87 .nilIface 1 16 Tryz.underlying51 hi hz0 hz1 hz2 rfl (by decide) _ 1 _ rfl (own_below H2.out HB4.out) ⟨wb.heap.size, 0, none⟩ 1 1 [(.iface 103 (.agg #[.slice A n c, .int .u8 2, .int .u8 0, .int .u8 1, .int .u8 0, .int .u8 0, .int .u8 0, .int .u8 0, .int .u8 0, .int .u8 0, .int .u8 0, .int .u8 0, .int .u8 0, .int .u8 0, .int .u8 0, .int .u8 0, .int .u8 99, .int .u8 2, .int .u8 0, .int .u8 2, .int .u8 0, .int .u8 0, .int .u8 0, .int .u8 0, .int .u8 0, .int .u8 0, .int .u8 0, .int .u8 0, .int .u8 0, .int .u8 0, .int .u8 0, .int .u8 0, .int .u8 99]))] rfl rfl HN4.out (by intro u hu; rw [List.mem_singleton] at hu; subst hu; rfl) (by decide) (by decide) (Nat.le_trans (Nat.le_of_lt hkb) HB4.out.size) ?_
        intro v' w7 ho hg _
        have hb1 : w7.heap[kb]? = some (.cells #[.slice q 1 cq] 53 (0, 0)) := by
          refine (hg.block kb (Nat.lt_of_lt_of_le hkb HB4.out.size) (fun e9 => ?_)).trans ((HB4.out.block kb hkb).trans H1.out)
          have e : some kb = (Value.slice q 1 cq).ownBlock := e9
          rcases own_blk H2.out H1.out (by decide) with h | h
          · rw [h] at e; cases e
          · exact h e.symm
        have hB7 : Below kb w w7 := Below.grown' (HB4.out.mono (by omega)) hg (Nat.le_trans (Nat.le_of_lt hkb) HB4.out.size) (fun k hk => (H2.out.lt k hk).1)
        obtain ⟨q2, cq2, rfl, -⟩ := own_slice2 ho
        have HT := Lib.hid (Turned.setCell hb1 0 (.slice q2 2 cq2))
        have HO : Hid (w7.ownsRow kb 107 1 (.slice q2 2 cq2) 2 [(.iface 100 (.agg #[.slice A0 n0 c0, .int .u8 1, .int .u8 254])), (.iface 103 (.agg #[.slice A n c, .int .u8 2, .int .u8 0, .int .u8 1, .int .u8 0, .int .u8 0, .int .u8 0, .int .u8 0, .int .u8 0, .int .u8 0, .int .u8 0, .int .u8 0, .int .u8 0, .int .u8 0, .int .u8 0, .int .u8 0, .int .u8 99, .int .u8 2, .int .u8 0, .int .u8 2, .int .u8 0, .int .u8 0, .int .u8 0, .int .u8 0, .int .u8 0, .int .u8 0, .int .u8 0, .int .u8 0, .int .u8 0, .int .u8 0, .int .u8 0, .int .u8 0, .int .u8 99]))]) := Lib.hid ho
        have HB7 := Lib.hid hB7; have HB1 := Lib.hid hb1
        clear hg ho hB7 hb1
        go_simp
        refine hK.out _ _ trivial (fun HS => ?_)
        clear hK
        try simp only [List.getElem_toArray, List.getElem_cons_zero, List.getElem_cons_succ, Act.put, List.setIfInBounds_toArray, List.set_cons_zero, List.set_cons_succ]
        refine wpAnyH_take (i := 14) (v := ?_) rfl (by kernel_rfl) (by kernel_rfl) (by kernel_rfl) (fun _ _ _ h => h) (Or.inl ⟨by go_simp, ?hy⟩) HS ?_
        case hy => intro W hW; go_simp; (try with_reducible rfl)
        try simp only [List.getElem_toArray, List.getElem_cons_zero, List.getElem_cons_succ, Act.put, List.setIfInBounds_toArray, List.set_cons_zero, List.set_cons_succ]
        refine wpAnyH_take (i := 15) (v := (.pointer (some ⟨kb, 0, none⟩))) rfl (by kernel_rfl) (by kernel_rfl) (by kernel_rfl) (fun _ _ _ h => h) (Or.inl ⟨by go_simp, fun W hW => by go_simp⟩) HS ?_
        try simp only [List.getElem_toArray, List.getElem_cons_zero, List.getElem_cons_succ, Act.put, List.setIfInBounds_toArray, List.set_cons_zero, List.set_cons_succ]
        refine wpAnyH_ready (rs := [16]) (by kernel_rfl) (by simp) ?_
        refine AllReadyH.cons rfl (fun K hK => ?_) AllReadyH.nil
        rw [if_pos (by kernel_rfl)]
        simp only [List.getElem_toArray, List.getElem_cons_zero, List.getElem_cons_succ]
        have d0 := cell_blk HB1.out 0
        simp only [List.getElem?_toArray, List.getElem?_cons_zero] at d0
        have f0 := frozen_blk HB1.out 0
        go_simp
        refine hK.out _ _ trivial (fun HS => ?_)
        clear hK d0 f0
        refine wpAnyH_done (by kernel_rfl) ?_ _
        go_wp2_with fail
        go_end0
        refine ⟨rfl, ⟨_, HT.out.get (lt_of_blk HB1.out), ?_⟩, HB7.out.trans (HT.out.below (Nat.le_refl _))⟩
        exact HO.out.kept HT.out.grown (own_blk HO.out HB1.out (by decide))
end Go.Proofs.YtfolamkjlgpgmaaGreatDoor


/- A book of a list of bytes, one of addresses and one of texts: a list of texts more: the walk. No condition. (Printed by gMixD.py.) -/
namespace Go.Proofs.YtfolamkjlgpgmaaGreatDoor
open Go.RowKit
set_option linter.unusedVariables false
set_option linter.unusedSimpArgs false
set_option maxRecDepth 100000 in
set_option maxHeartbeats 2000000 in
theorem texts21 {kb n c n0 c0 n1 c1 : Nat} {A A0 A1 : Option Addr} (w : World) (h : BookV w kb [(.iface 100 (.agg #[.slice A0 n0 c0, .int .u8 1, .int .u8 254])), (.iface 103 (.agg #[.slice A1 n1 c1, .int .u8 2, .int .u8 0, .int .u8 1, .int .u8 0, .int .u8 0, .int .u8 0, .int .u8 0, .int .u8 0, .int .u8 0, .int .u8 0, .int .u8 0, .int .u8 0, .int .u8 0, .int .u8 0, .int .u8 0, .int .u8 99, .int .u8 2, .int .u8 0, .int .u8 2, .int .u8 0, .int .u8 0, .int .u8 0, .int .u8 0, .int .u8 0, .int .u8 0, .int .u8 0, .int .u8 0, .int .u8 0, .int .u8 0, .int .u8 0, .int .u8 0, .int .u8 99]))]) :
    Calls Tryz.prog 21 #[.pointer (some ⟨kb, 0, none⟩), .slice A n c] w (BookVP kb [(.iface 100 (.agg #[.slice A0 n0 c0, .int .u8 1, .int .u8 254])), (.iface 103 (.agg #[.slice A1 n1 c1, .int .u8 2, .int .u8 0, .int .u8 1, .int .u8 0, .int .u8 0, .int .u8 0, .int .u8 0, .int .u8 0, .int .u8 0, .int .u8 0, .int .u8 0, .int .u8 0, .int .u8 0, .int .u8 0, .int .u8 0, .int .u8 99, .int .u8 2, .int .u8 0, .int .u8 2, .int .u8 0, .int .u8 0, .int .u8 0, .int .u8 0, .int .u8 0, .int .u8 0, .int .u8 0, .int .u8 0, .int .u8 0, .int .u8 0, .int .u8 0, .int .u8 0, .int .u8 99])), (.iface 105 (.agg #[.slice A n c, .string ⟨#[105, 110, 100, 97]⟩, .string ⟨#[111, 117, 116, 100, 97]⟩]))] w) := by
  obtain ⟨i87, hi, hz0, hz1, hz2⟩ := info_parts info87
  obtain ⟨v, h1, h2⟩ := h
  obtain ⟨q, cq, rfl, hq⟩ := own_slice2 h2
  have h1 : w.heap[kb]? = some (.cells #[.slice q 2 cq] 53 (0, 0)) := h1
  have h2 : w.ownsRow kb 107 1 (.slice q 2 cq) 2 [(.iface 100 (.agg #[.slice A0 n0 c0, .int .u8 1, .int .u8 254])), (.iface 103 (.agg #[.slice A1 n1 c1, .int .u8 2, .int .u8 0, .int .u8 1, .int .u8 0, .int .u8 0, .int .u8 0, .int .u8 0, .int .u8 0, .int .u8 0, .int .u8 0, .int .u8 0, .int .u8 0, .int .u8 0, .int .u8 0, .int .u8 0, .int .u8 99, .int .u8 2, .int .u8 0, .int .u8 2, .int .u8 0, .int .u8 0, .int .u8 0, .int .u8 0, .int .u8 0, .int .u8 0, .int .u8 0, .int .u8 0, .int .u8 0, .int .u8 0, .int .u8 0, .int .u8 0, .int .u8 99]))] := h2
  have HNX := Lib.hid (next54 w h1 (by omega))
  have e0 := cell_blk h1 0
  simp only [List.getElem?_toArray, List.getElem?_cons_zero] at e0
  have H1 := Lib.hid h1
  have H2 := Lib.hid h2
  have hkb := lt_of_blk h1
  have HN4 : Hid (∀ j u, ([(.iface 105 (.agg #[.slice A n c, .string ⟨#[105, 110, 100, 97]⟩, .string ⟨#[111, 117, 116, 100, 97]⟩]))] : List Value)[j]? = some u → (w.alloc (.cells #[(.iface 105 (.agg #[.slice A n c, .string ⟨#[105, 110, 100, 97]⟩, .string ⟨#[111, 117, 116, 100, 97]⟩]))] 107)).cell? ((⟨w.heap.size, 0, none⟩ : Addr).add j) = some u) := Lib.hid (fun j u hj => by
    rw [Addr.add_mid, Nat.zero_add]
    exact (cell_blk (heap_alloc_new w (.cells #[(.iface 105 (.agg #[.slice A n c, .string ⟨#[105, 110, 100, 97]⟩, .string ⟨#[111, 117, 116, 100, 97]⟩]))] 107)) j).trans (by simpa using hj))
  have HB4 : Hid (Below w.heap.size w (w.alloc (.cells #[(.iface 105 (.agg #[.slice A n c, .string ⟨#[105, 110, 100, 97]⟩, .string ⟨#[111, 117, 116, 100, 97]⟩]))] 107))) := Lib.hid ((Below.refl _ _).alloc (Nat.le_refl _) _)
  clear h1 h2 hq
  go_enter Tryz.func21, Tryz.ntmps21
  go_wp2_with fail
  refine (HNX.out).mono ?_
  rintro e w1 ⟨rfl, rfl⟩
  go_wp2_with (at_builtin; refine wpList_append_own _ rfl _ _ 51 rfl kb 107 i87 .nilIface 1 16 Tryz.underlying51 hi hz0 hz1 hz2 rfl (by decide) _ 2 _ rfl (own_below H2.out HB4.out) ⟨w.heap.size, 0, none⟩ 1 1 [(.iface 105 (.agg #[.slice A n c, .string ⟨#[105, 110, 100, 97]⟩, .string ⟨#[111, 117, 116, 100, 97]⟩]))] rfl rfl HN4.out (by intro u hu; rw [List.mem_singleton] at hu; subst hu; rfl) (by decide) (by decide) (Nat.le_trans (Nat.le_of_lt hkb) HB4.out.size) ?_)
  intro v' w7 ho hg _
  have hb1 : w7.heap[kb]? = some (.cells #[.slice q 2 cq] 53 (0, 0)) := by
    refine (hg.block kb (Nat.lt_of_lt_of_le hkb HB4.out.size) (fun e9 => ?_)).trans ((HB4.out.block kb hkb).trans H1.out)
    have e : some kb = (Value.slice q 2 cq).ownBlock := e9
    rcases own_blk H2.out H1.out (by decide) with h | h
    · rw [h] at e; cases e
    · exact h e.symm
  have d0 := cell_blk hb1 0
  simp only [List.getElem?_toArray, List.getElem?_cons_zero] at d0
  have f0 := frozen_blk hb1 0
  have hB7 : Below kb w w7 := Below.grown' (HB4.out.mono (by omega)) hg (Nat.le_trans (Nat.le_of_lt hkb) HB4.out.size) (fun k hk => (H2.out.lt k hk).1)
  obtain ⟨q2, cq2, rfl, -⟩ := own_slice2 ho
  have HT := Lib.hid (Turned.setCell hb1 0 (.slice q2 3 cq2))
  have HO : Hid (w7.ownsRow kb 107 1 (.slice q2 3 cq2) 3 [(.iface 100 (.agg #[.slice A0 n0 c0, .int .u8 1, .int .u8 254])), (.iface 103 (.agg #[.slice A1 n1 c1, .int .u8 2, .int .u8 0, .int .u8 1, .int .u8 0, .int .u8 0, .int .u8 0, .int .u8 0, .int .u8 0, .int .u8 0, .int .u8 0, .int .u8 0, .int .u8 0, .int .u8 0, .int .u8 0, .int .u8 0, .int .u8 99, .int .u8 2, .int .u8 0, .int .u8 2, .int .u8 0, .int .u8 0, .int .u8 0, .int .u8 0, .int .u8 0, .int .u8 0, .int .u8 0, .int .u8 0, .int .u8 0, .int .u8 0, .int .u8 0, .int .u8 0, .int .u8 99])), (.iface 105 (.agg #[.slice A n c, .string ⟨#[105, 110, 100, 97]⟩, .string ⟨#[111, 117, 116, 100, 97]⟩]))]) := Lib.hid ho
  have HB7 := Lib.hid hB7; have HB1 := Lib.hid hb1
  clear hg ho hB7 hb1 e0
  go_wp2_with fail
  go_end0
  refine ⟨rfl, ⟨_, HT.out.get (lt_of_blk HB1.out), ?_⟩, HB7.out.trans (HT.out.below (Nat.le_refl _))⟩
  exact HO.out.kept HT.out.grown (own_blk HO.out HB1.out (by decide))
end Go.Proofs.YtfolamkjlgpgmaaGreatDoor


/- A book of a list of bytes, one of addresses and one of texts: are they apart: the walk. No condition beyond that each stands in memory. (Printed by gMixE.py.) -/
namespace Go.Proofs.YtfolamkjlgpgmaaGreatDoor
open Go.RowKit
set_option linter.unusedVariables false
set_option linter.unusedSimpArgs false
def sgY (s : Nat) : Nat → Nat := fun i => [2, 0, s, 0, 0, 0, 0, 0, 0, 0, 0, 0, 0, 0, 0, 99].getD i 0
theorem sgY_lt {s : Nat} (hs : s < 256) : ∀ j, j < 16 → sgY s j < 256 := fun j hj => by
  unfold sgY
  have : j = 0 ∨ j = 1 ∨ j = 2 ∨ j = 3 ∨ j = 4 ∨ j = 5 ∨ j = 6 ∨ j = 7 ∨ j = 8 ∨ j = 9 ∨ j = 10 ∨ j = 11 ∨ j = 12 ∨ j = 13 ∨ j = 14 ∨ j = 15 := by omega
  rcases this with rfl | rfl | rfl | rfl | rfl | rfl | rfl | rfl | rfl | rfl | rfl | rfl | rfl | rfl | rfl | rfl <;> simp <;> omega
structure AM (w wr : World) (lo kb : Nat) (A0 A1 A2 : Option Addr) (n0 c0 n1 c1 n2 c2 : Nat) (p q : Nat) : Prop where
  below : Below lo w wr
  above : ∀ j, kb ≤ j → j < w.heap.size → wr.heap[j]? = w.heap[j]?
  i0 : GsIn lo kb wr ⟨A0, n0, c0, 5, 1⟩
  i1 : GsIn lo kb wr ⟨A1, n1, c1, 32, 16⟩
  i2 : GsIn lo kb wr ⟨A2, n2, c2, 9, 1⟩
  f0 : 0 < p → GsIs wr ⟨A0, n0, c0, 5, 1⟩ 0 n0 (fun _ => .int .u8 1)
  f1 : 1 < p → GsIs wr ⟨A1, n1, c1, 32, 16⟩ 0 (n1 * 16) (sgF (sgY 1))
  f2 : 2 < p → GsIs wr ⟨A2, n2, c2, 9, 1⟩ 0 n2 (fun _ => .string ⟨#[105, 110, 100, 97]⟩)
  r0 : 0 < q → GsIs wr ⟨A0, n0, c0, 5, 1⟩ n0 (c0 * 1) (fun _ => .int .u8 254)
  r1 : 1 < q → GsIs wr ⟨A1, n1, c1, 32, 16⟩ (n1 * 16) (c1 * 16) (sgF (sgY 2))
  r2 : 2 < q → GsIs wr ⟨A2, n2, c2, 9, 1⟩ n2 (c2 * 1) (fun _ => .string ⟨#[111, 117, 116, 100, 97]⟩)
theorem AM.step {A0 A1 A2 : Option Addr} {n0 c0 n1 c1 n2 c2 : Nat} {w wr w' : World} {lo kb p q : Nat} (h : AM w wr lo kb A0 A1 A2 n0 c0 n1 c1 n2 c2 p q) (hlo : lo ≤ wr.heap.size) (hs : w.heap.size ≤ wr.heap.size) (hb : Below wr.heap.size wr w') : AM w w' lo kb A0 A1 A2 n0 c0 n1 c1 n2 c2 p q :=
  ⟨h.below.trans (hb.mono hlo), fun j h1 h2 => (hb.block j (by omega)).trans (h.above j h1 h2), h.i0.step hb, h.i1.step hb, h.i2.step hb, fun e => (h.f0 e).step hb, fun e => (h.f1 e).step hb, fun e => (h.f2 e).step hb, fun e => (h.r0 e).step hb, fun e => (h.r1 e).step hb, fun e => (h.r2 e).step hb⟩
theorem Gp.apart_keep {x y : Gs} {a b c d lo hi : Nat} {f u : Nat → Value} {w w' : World} (h : Gp x a b f w w') (hx : GsIn lo hi w x) (hy : GsIn lo hi w y) (hT : x.T ≠ y.T) (k : GsIs w y c d u) : GsIs w' y c d u :=
  h.keep hx k (fun g o o2 h1 h2 => absurd h2 (hx.apart hy hT g o o2 h1))
theorem Gp.above {x : Gs} {a b lo hi : Nat} {f : Nat → Value} {w w' : World} (h : Gp x a b f w w') (hx : GsIn lo hi w x) (k : Nat) (hk : hi ≤ k) (hs : k < w.heap.size) : w'.heap[k]? = w.heap[k]? :=
  h.other k hs (fun o e => by
    rcases hx.at_ with ⟨h1, _⟩ | ⟨g1, o1, cs, h1, h2, h3, _⟩
    · rw [h1] at e; cases e
    · rw [h1] at e; cases e; omega)
theorem AM.fill0 {A0 A1 A2 : Option Addr} {n0 c0 n1 c1 n2 c2 : Nat} {w wr w' : World} {lo kb : Nat} (h : AM w wr lo kb A0 A1 A2 n0 c0 n1 c1 n2 c2 0 0) (hlo : lo ≤ wr.heap.size) (hs : w.heap.size ≤ wr.heap.size) (g : Gp ⟨A0, n0, c0, 5, 1⟩ 0 n0 (fun _ => .int .u8 1) wr w') : AM w w' lo kb A0 A1 A2 n0 c0 n1 c1 n2 c2 1 0 :=
  ⟨h.below.trans (g.below h.i0 hlo), fun j h1 h2 => (g.above h.i0 j h1 (by omega)).trans (h.above j h1 h2), g.span h.i0 (.inl rfl), g.span h.i1 (.inr (h.i0.apart h.i1 (show (5 : Nat) ≠ 32 by decide))), g.span h.i2 (.inr (h.i0.apart h.i2 (show (5 : Nat) ≠ 9 by decide))), fun _ => g.is h.i0 (by have := h.i0.fit; show n0 ≤ (c0 * 1); have h9 : n0 ≤ c0 := this; omega), fun e => absurd e (by omega), fun e => absurd e (by omega), fun e => absurd e (by omega), fun e => absurd e (by omega), fun e => absurd e (by omega)⟩
theorem AM.fill1 {A0 A1 A2 : Option Addr} {n0 c0 n1 c1 n2 c2 : Nat} {w wr w' : World} {lo kb : Nat} (h : AM w wr lo kb A0 A1 A2 n0 c0 n1 c1 n2 c2 1 0) (hlo : lo ≤ wr.heap.size) (hs : w.heap.size ≤ wr.heap.size) (g : Gp ⟨A1, n1, c1, 32, 16⟩ 0 (n1 * 16) (sgF (sgY 1)) wr w') : AM w w' lo kb A0 A1 A2 n0 c0 n1 c1 n2 c2 2 0 :=
  ⟨h.below.trans (g.below h.i1 hlo), fun j h1 h2 => (g.above h.i1 j h1 (by omega)).trans (h.above j h1 h2), g.span h.i0 (.inr (h.i1.apart h.i0 (show (32 : Nat) ≠ 5 by decide))), g.span h.i1 (.inl rfl), g.span h.i2 (.inr (h.i1.apart h.i2 (show (32 : Nat) ≠ 9 by decide))), fun e => g.apart_keep h.i1 h.i0 (show (32 : Nat) ≠ 5 by decide) (h.f0 (by omega)), fun _ => g.is h.i1 (by have := h.i1.fit; show (n1 * 16) ≤ (c1 * 16); have h9 : n1 ≤ c1 := this; omega), fun e => absurd e (by omega), fun e => absurd e (by omega), fun e => absurd e (by omega), fun e => absurd e (by omega)⟩
theorem AM.fill2 {A0 A1 A2 : Option Addr} {n0 c0 n1 c1 n2 c2 : Nat} {w wr w' : World} {lo kb : Nat} (h : AM w wr lo kb A0 A1 A2 n0 c0 n1 c1 n2 c2 2 0) (hlo : lo ≤ wr.heap.size) (hs : w.heap.size ≤ wr.heap.size) (g : Gp ⟨A2, n2, c2, 9, 1⟩ 0 n2 (fun _ => .string ⟨#[105, 110, 100, 97]⟩) wr w') : AM w w' lo kb A0 A1 A2 n0 c0 n1 c1 n2 c2 3 0 :=
  ⟨h.below.trans (g.below h.i2 hlo), fun j h1 h2 => (g.above h.i2 j h1 (by omega)).trans (h.above j h1 h2), g.span h.i0 (.inr (h.i2.apart h.i0 (show (9 : Nat) ≠ 5 by decide))), g.span h.i1 (.inr (h.i2.apart h.i1 (show (9 : Nat) ≠ 32 by decide))), g.span h.i2 (.inl rfl), fun e => g.apart_keep h.i2 h.i0 (show (9 : Nat) ≠ 5 by decide) (h.f0 (by omega)), fun e => g.apart_keep h.i2 h.i1 (show (9 : Nat) ≠ 32 by decide) (h.f1 (by omega)), fun _ => g.is h.i2 (by have := h.i2.fit; show n2 ≤ (c2 * 1); have h9 : n2 ≤ c2 := this; omega), fun e => absurd e (by omega), fun e => absurd e (by omega), fun e => absurd e (by omega)⟩
theorem AM.rill0 {A0 A1 A2 : Option Addr} {n0 c0 n1 c1 n2 c2 : Nat} {w wr w' : World} {lo kb : Nat} (h : AM w wr lo kb A0 A1 A2 n0 c0 n1 c1 n2 c2 3 0) (hlo : lo ≤ wr.heap.size) (hs : w.heap.size ≤ wr.heap.size) (g : Gp ⟨A0, n0, c0, 5, 1⟩ n0 c0 (fun _ => .int .u8 254) wr w') : AM w w' lo kb A0 A1 A2 n0 c0 n1 c1 n2 c2 3 1 :=
  ⟨h.below.trans (g.below h.i0 hlo), fun j h1 h2 => (g.above h.i0 j h1 (by omega)).trans (h.above j h1 h2), g.span h.i0 (.inl rfl), g.span h.i1 (.inr (h.i0.apart h.i1 (show (5 : Nat) ≠ 32 by decide))), g.span h.i2 (.inr (h.i0.apart h.i2 (show (5 : Nat) ≠ 9 by decide))), fun e => g.keep h.i0 (h.f0 (by omega)) (fun g2 o1 o2 e1 e2 => by rw [e1] at e2; cases e2; right; omega), fun e => g.apart_keep h.i0 h.i1 (show (5 : Nat) ≠ 32 by decide) (h.f1 (by omega)), fun e => g.apart_keep h.i0 h.i2 (show (5 : Nat) ≠ 9 by decide) (h.f2 (by omega)), fun _ => by have := g.is h.i0 (show c0 ≤ (c0 * 1) by omega); rwa [← Nat.mul_one c0] at this, fun e => absurd e (by omega), fun e => absurd e (by omega)⟩
theorem AM.rill1 {A0 A1 A2 : Option Addr} {n0 c0 n1 c1 n2 c2 : Nat} {w wr w' : World} {lo kb : Nat} (h : AM w wr lo kb A0 A1 A2 n0 c0 n1 c1 n2 c2 3 1) (hlo : lo ≤ wr.heap.size) (hs : w.heap.size ≤ wr.heap.size) (g : Gp ⟨A1, n1, c1, 32, 16⟩ (n1 * 16) (c1 * 16) (sgF (sgY 2)) wr w') : AM w w' lo kb A0 A1 A2 n0 c0 n1 c1 n2 c2 3 2 :=
  ⟨h.below.trans (g.below h.i1 hlo), fun j h1 h2 => (g.above h.i1 j h1 (by omega)).trans (h.above j h1 h2), g.span h.i0 (.inr (h.i1.apart h.i0 (show (32 : Nat) ≠ 5 by decide))), g.span h.i1 (.inl rfl), g.span h.i2 (.inr (h.i1.apart h.i2 (show (32 : Nat) ≠ 9 by decide))), fun e => g.apart_keep h.i1 h.i0 (show (32 : Nat) ≠ 5 by decide) (h.f0 (by omega)), fun e => g.keep h.i1 (h.f1 (by omega)) (fun g2 o1 o2 e1 e2 => by rw [e1] at e2; cases e2; right; omega), fun e => g.apart_keep h.i1 h.i2 (show (32 : Nat) ≠ 9 by decide) (h.f2 (by omega)), fun e => g.apart_keep h.i1 h.i0 (show (32 : Nat) ≠ 5 by decide) (h.r0 (by omega)), fun _ => by have := g.is h.i1 (show (c1 * 16) ≤ (c1 * 16) by omega); exact this, fun e => absurd e (by omega)⟩
theorem AM.rill2 {A0 A1 A2 : Option Addr} {n0 c0 n1 c1 n2 c2 : Nat} {w wr w' : World} {lo kb : Nat} (h : AM w wr lo kb A0 A1 A2 n0 c0 n1 c1 n2 c2 3 2) (hlo : lo ≤ wr.heap.size) (hs : w.heap.size ≤ wr.heap.size) (g : Gp ⟨A2, n2, c2, 9, 1⟩ n2 c2 (fun _ => .string ⟨#[111, 117, 116, 100, 97]⟩) wr w') : AM w w' lo kb A0 A1 A2 n0 c0 n1 c1 n2 c2 3 3 :=
  ⟨h.below.trans (g.below h.i2 hlo), fun j h1 h2 => (g.above h.i2 j h1 (by omega)).trans (h.above j h1 h2), g.span h.i0 (.inr (h.i2.apart h.i0 (show (9 : Nat) ≠ 5 by decide))), g.span h.i1 (.inr (h.i2.apart h.i1 (show (9 : Nat) ≠ 32 by decide))), g.span h.i2 (.inl rfl), fun e => g.apart_keep h.i2 h.i0 (show (9 : Nat) ≠ 5 by decide) (h.f0 (by omega)), fun e => g.apart_keep h.i2 h.i1 (show (9 : Nat) ≠ 32 by decide) (h.f1 (by omega)), fun e => g.keep h.i2 (h.f2 (by omega)) (fun g2 o1 o2 e1 e2 => by rw [e1] at e2; cases e2; right; omega), fun e => g.apart_keep h.i2 h.i0 (show (9 : Nat) ≠ 5 by decide) (h.r0 (by omega)), fun e => g.apart_keep h.i2 h.i1 (show (9 : Nat) ≠ 32 by decide) (h.r1 (by omega)), fun _ => by have := g.is h.i2 (show c2 ≤ (c2 * 1) by omega); rwa [← Nat.mul_one c2] at this⟩
theorem book_leaf {w wr : World} {kb i n cq : Nat} {q : Option Addr} {L : List Value} {x : Value} (h2 : w.ownsRow kb 107 1 (.slice q n cq) n L) (ha : ∀ j, kb ≤ j → j < w.heap.size → wr.heap[j]? = w.heap[j]?) (hx : L[i]? = some x) (hi : i < n) : ∃ g, q = some ⟨g, 0, none⟩ ∧ wr.cell? ⟨g, i, none⟩ = some x := by
  rcases h2.2 with ⟨e, h0⟩ | ⟨g, cap, cur, e, hb, hg, hn, hm2, hs, ht⟩
  · omega
  · cases e
    refine ⟨g, rfl, ?_⟩
    rw [cell_blk ((ha g hb (lt_of_blk hg)).trans hg)]
    rw [← ht, List.getElem?_take_of_lt (by omega), Array.getElem?_toList] at hx
    exact hx
set_option maxRecDepth 100000 in
set_option maxHeartbeats 4000000 in
theorem apart22 {kb lo : Nat} {A0 A1 A2 : Option Addr} {n0 c0 n1 c1 n2 c2 : Nat} (w : World) (h : BookV w kb [(.iface 100 (.agg #[.slice A0 n0 c0, .int .u8 1, .int .u8 254])), (.iface 103 (.agg #[.slice A1 n1 c1, .int .u8 2, .int .u8 0, .int .u8 1, .int .u8 0, .int .u8 0, .int .u8 0, .int .u8 0, .int .u8 0, .int .u8 0, .int .u8 0, .int .u8 0, .int .u8 0, .int .u8 0, .int .u8 0, .int .u8 0, .int .u8 99, .int .u8 2, .int .u8 0, .int .u8 2, .int .u8 0, .int .u8 0, .int .u8 0, .int .u8 0, .int .u8 0, .int .u8 0, .int .u8 0, .int .u8 0, .int .u8 0, .int .u8 0, .int .u8 0, .int .u8 0, .int .u8 99])), (.iface 105 (.agg #[.slice A2 n2 c2, .string ⟨#[105, 110, 100, 97]⟩, .string ⟨#[111, 117, 116, 100, 97]⟩]))]) (h0 : GsIn lo kb w ⟨A0, n0, c0, 5, 1⟩) (h1 : GsIn lo kb w ⟨A1, n1, c1, 32, 16⟩) (h2 : GsIn lo kb w ⟨A2, n2, c2, 9, 1⟩) (hlo : lo ≤ kb) :
    Calls Tryz.prog 22 #[.pointer (some ⟨kb, 0, none⟩)] w (ApartPost lo w) := by
  obtain ⟨v, k1, k2⟩ := h
  obtain ⟨q, cq, rfl, hq⟩ := own_slice2 k2
  have k1 : w.heap[kb]? = some (.cells #[.slice q 3 cq] 53 (0, 0)) := k1
  have k2 : w.ownsRow kb 107 1 (.slice q 3 cq) 3 [(.iface 100 (.agg #[.slice A0 n0 c0, .int .u8 1, .int .u8 254])), (.iface 103 (.agg #[.slice A1 n1 c1, .int .u8 2, .int .u8 0, .int .u8 1, .int .u8 0, .int .u8 0, .int .u8 0, .int .u8 0, .int .u8 0, .int .u8 0, .int .u8 0, .int .u8 0, .int .u8 0, .int .u8 0, .int .u8 0, .int .u8 0, .int .u8 99, .int .u8 2, .int .u8 0, .int .u8 2, .int .u8 0, .int .u8 0, .int .u8 0, .int .u8 0, .int .u8 0, .int .u8 0, .int .u8 0, .int .u8 0, .int .u8 0, .int .u8 0, .int .u8 0, .int .u8 0, .int .u8 99])), (.iface 105 (.agg #[.slice A2 n2 c2, .string ⟨#[105, 110, 100, 97]⟩, .string ⟨#[111, 117, 116, 100, 97]⟩]))] := k2
  have hkb := lt_of_blk k1
  have I0 : AM w w lo kb A0 A1 A2 n0 c0 n1 c1 n2 c2 0 0 := ⟨Below.refl _ _, fun _ _ _ => rfl, h0, h1, h2, fun e => absurd e (by omega), fun e => absurd e (by omega), fun e => absurd e (by omega), fun e => absurd e (by omega), fun e => absurd e (by omega), fun e => absurd e (by omega)⟩
  have e0 := cell_blk k1 0
  simp only [List.getElem?_toArray, List.getElem?_cons_zero] at e0
  have H1 := Lib.hid k1; have H2 := Lib.hid k2; have HI := Lib.hid I0
  have hloW : lo ≤ w.heap.size := by omega
  clear k1 k2 h0 h1 h2 I0 hq
  go_enter Tryz.func22, Tryz.ntmps22
  go_wp2_with fail
  go_loopw [3] (fun i wr => ∃ k : Nat, k ≤ 3 ∧ i = .int .i64 k ∧ AM w wr lo kb A0 A1 A2 n0 c0 n1 c1 n2 c2 k 0) (fun i _ => 3 - (intOf i).toNat)
  case atStart => exact ⟨0, by decide, rfl, HI.out⟩
  case round =>
    clear HI e0
    obtain ⟨k, hk, rfl, I⟩ := hrel
    have e0 := cell_blk ((I.above kb (Nat.le_refl _) hkb).trans H1.out) 0
    simp only [List.getElem?_toArray, List.getElem?_cons_zero] at e0
    have HI := Lib.hid I
    have hsz : w.heap.size ≤ wr.heap.size := I.below.size
    have hlo2 : lo ≤ wr.heap.size := by omega
    clear I
    by_cases hlt : k < 3
    · obtain rfl | rfl | rfl : k = 0 ∨ k = 1 ∨ k = 2 := by omega
      · obtain ⟨g, rfl, cg⟩ := book_leaf (i := 0) H2.out HI.out.above rfl (by decide)
        have HF : Hid (Calls Tryz.prog 129 #[.agg #[.slice A0 n0 c0, .int .u8 1, .int .u8 254]] wr (FillG ⟨A0, n0, c0, 5, 1⟩ 0 n0 (fun _ => .int .u8 1) wr)) := Lib.hid (fillB 1 254 wr HI.out.i0)
        go_wp2_with fail
        refine (HF.out).mono ?_
        rintro e w1 ⟨rfl, P⟩
        have HN := Lib.hid (HI.out.fill0 hlo2 hsz P)
        clear P HF cg
        go_wp2_with fail
        go_roundw
        case rel => exact ⟨1, by decide, rfl, HN.out⟩
        case measure => simp [intOf]
      · obtain ⟨g, rfl, cg⟩ := book_leaf (i := 1) H2.out HI.out.above rfl (by decide)
        have HF : Hid (Calls Tryz.prog 132 #[.agg #[.slice A1 n1 c1, .int .u8 2, .int .u8 0, .int .u8 1, .int .u8 0, .int .u8 0, .int .u8 0, .int .u8 0, .int .u8 0, .int .u8 0, .int .u8 0, .int .u8 0, .int .u8 0, .int .u8 0, .int .u8 0, .int .u8 0, .int .u8 99, .int .u8 2, .int .u8 0, .int .u8 2, .int .u8 0, .int .u8 0, .int .u8 0, .int .u8 0, .int .u8 0, .int .u8 0, .int .u8 0, .int .u8 0, .int .u8 0, .int .u8 0, .int .u8 0, .int .u8 0, .int .u8 99]] wr (FillG ⟨A1, n1, c1, 32, 16⟩ 0 (n1 * 16) (sgF (sgY 1)) wr)) := Lib.hid (fillA (sgY 1) (sgY 2) wr HI.out.i1)
        go_wp2_with fail
        refine (HF.out).mono ?_
        rintro e w1 ⟨rfl, P⟩
        have HN := Lib.hid (HI.out.fill1 hlo2 hsz P)
        clear P HF cg
        go_wp2_with fail
        go_roundw
        case rel => exact ⟨2, by decide, rfl, HN.out⟩
        case measure => simp [intOf]
      · obtain ⟨g, rfl, cg⟩ := book_leaf (i := 2) H2.out HI.out.above rfl (by decide)
        have HF : Hid (Calls Tryz.prog 135 #[.agg #[.slice A2 n2 c2, .string ⟨#[105, 110, 100, 97]⟩, .string ⟨#[111, 117, 116, 100, 97]⟩]] wr (FillG ⟨A2, n2, c2, 9, 1⟩ 0 n2 (fun _ => .string ⟨#[105, 110, 100, 97]⟩) wr)) := Lib.hid (fillT ⟨#[105, 110, 100, 97]⟩ ⟨#[111, 117, 116, 100, 97]⟩ wr HI.out.i2)
        go_wp2_with fail
        refine (HF.out).mono ?_
        rintro e w1 ⟨rfl, P⟩
        have HN := Lib.hid (HI.out.fill2 hlo2 hsz P)
        clear P HF cg
        go_wp2_with fail
        go_roundw
        case rel => exact ⟨3, by decide, rfl, HN.out⟩
        case measure => simp [intOf]
    · have hk3 : k = 3 := by omega
      try rw [hk3] at HI
      have tk : ¬ (k : Int) < 3 := by omega
      clear hk3 e0
      have e0 := cell_blk ((HI.out.above kb (Nat.le_refl _) hkb).trans H1.out) 0
      simp only [List.getElem?_toArray, List.getElem?_cons_zero] at e0
      go_wp2_with fail
      go_loopw [4] (fun i wr => ∃ k : Nat, k ≤ 3 ∧ i = .int .i64 k ∧ AM w wr lo kb A0 A1 A2 n0 c0 n1 c1 n2 c2 3 k) (fun i _ => 3 - (intOf i).toNat)
      case atStart => exact ⟨0, by decide, rfl, HI.out⟩
      case round =>
        clear HI e0
        obtain ⟨k, hk, rfl, I⟩ := hrel
        have e0 := cell_blk ((I.above kb (Nat.le_refl _) hkb).trans H1.out) 0
        simp only [List.getElem?_toArray, List.getElem?_cons_zero] at e0
        have HI := Lib.hid I
        have hsz : w.heap.size ≤ wr.heap.size := I.below.size
        have hlo2 : lo ≤ wr.heap.size := by omega
        clear I
        by_cases hlt : k < 3
        · obtain rfl | rfl | rfl : k = 0 ∨ k = 1 ∨ k = 2 := by omega
          · obtain ⟨g, rfl, cg⟩ := book_leaf (i := 0) H2.out HI.out.above rfl (by decide)
            have HF : Hid (Calls Tryz.prog 130 #[.agg #[.slice A0 n0 c0, .int .u8 1, .int .u8 254]] wr (FillG ⟨A0, n0, c0, 5, 1⟩ n0 c0 (fun _ => .int .u8 254) wr)) := Lib.hid (roomB 1 254 wr HI.out.i0)
            go_wp2_with fail
            refine (HF.out).mono ?_
            rintro e w1 ⟨rfl, P⟩
            have HN := Lib.hid (HI.out.rill0 hlo2 hsz P)
            clear P HF cg
            go_wp2_with fail
            go_roundw
            case rel => exact ⟨1, by decide, rfl, HN.out⟩
            case measure => simp [intOf]
          · obtain ⟨g, rfl, cg⟩ := book_leaf (i := 1) H2.out HI.out.above rfl (by decide)
            have HF : Hid (Calls Tryz.prog 133 #[.agg #[.slice A1 n1 c1, .int .u8 2, .int .u8 0, .int .u8 1, .int .u8 0, .int .u8 0, .int .u8 0, .int .u8 0, .int .u8 0, .int .u8 0, .int .u8 0, .int .u8 0, .int .u8 0, .int .u8 0, .int .u8 0, .int .u8 0, .int .u8 99, .int .u8 2, .int .u8 0, .int .u8 2, .int .u8 0, .int .u8 0, .int .u8 0, .int .u8 0, .int .u8 0, .int .u8 0, .int .u8 0, .int .u8 0, .int .u8 0, .int .u8 0, .int .u8 0, .int .u8 0, .int .u8 99]] wr (FillG ⟨A1, n1, c1, 32, 16⟩ (n1 * 16) (c1 * 16) (sgF (sgY 2)) wr)) := Lib.hid (roomA (sgY 1) (sgY 2) wr HI.out.i1)
            go_wp2_with fail
            refine (HF.out).mono ?_
            rintro e w1 ⟨rfl, P⟩
            have HN := Lib.hid (HI.out.rill1 hlo2 hsz P)
            clear P HF cg
            go_wp2_with fail
            go_roundw
            case rel => exact ⟨2, by decide, rfl, HN.out⟩
            case measure => simp [intOf]
          · obtain ⟨g, rfl, cg⟩ := book_leaf (i := 2) H2.out HI.out.above rfl (by decide)
            have HF : Hid (Calls Tryz.prog 136 #[.agg #[.slice A2 n2 c2, .string ⟨#[105, 110, 100, 97]⟩, .string ⟨#[111, 117, 116, 100, 97]⟩]] wr (FillG ⟨A2, n2, c2, 9, 1⟩ n2 c2 (fun _ => .string ⟨#[111, 117, 116, 100, 97]⟩) wr)) := Lib.hid (roomT ⟨#[105, 110, 100, 97]⟩ ⟨#[111, 117, 116, 100, 97]⟩ wr HI.out.i2)
            go_wp2_with fail
            refine (HF.out).mono ?_
            rintro e w1 ⟨rfl, P⟩
            have HN := Lib.hid (HI.out.rill2 hlo2 hsz P)
            clear P HF cg
            go_wp2_with fail
            go_roundw
            case rel => exact ⟨3, by decide, rfl, HN.out⟩
            case measure => simp [intOf]
        · have hk3 : k = 3 := by omega
          try rw [hk3] at HI
          have tk : ¬ (k : Int) < 3 := by omega
          clear hk3 e0
          have e0 := cell_blk ((HI.out.above kb (Nat.le_refl _) hkb).trans H1.out) 0
          simp only [List.getElem?_toArray, List.getElem?_cons_zero] at e0
          go_wp2_with fail
          go_loopw [5] (fun i wr => ∃ k : Nat, k ≤ 3 ∧ i = .int .i64 k ∧ AM w wr lo kb A0 A1 A2 n0 c0 n1 c1 n2 c2 3 3) (fun i _ => 3 - (intOf i).toNat)
          case atStart => exact ⟨0, by decide, rfl, HI.out⟩
          case round =>
            clear HI e0
            obtain ⟨k, hk, rfl, I⟩ := hrel
            have e0 := cell_blk ((I.above kb (Nat.le_refl _) hkb).trans H1.out) 0
            simp only [List.getElem?_toArray, List.getElem?_cons_zero] at e0
            have HI := Lib.hid I
            have hsz : w.heap.size ≤ wr.heap.size := I.below.size
            have hlo2 : lo ≤ wr.heap.size := by omega
            clear I
            by_cases hlt : k < 3
            · obtain rfl | rfl | rfl : k = 0 ∨ k = 1 ∨ k = 2 := by omega
              · obtain ⟨g, rfl, cg⟩ := book_leaf (i := 0) H2.out HI.out.above rfl (by decide)
                have HF : Hid (Calls Tryz.prog 131 #[.agg #[.slice A0 n0 c0, .int .u8 1, .int .u8 254]] wr (KeptPost wr)) := Lib.hid (keptB 1 254 wr HI.out.i0 (HI.out.f0 (by decide)) (HI.out.r0 (by decide)))
                go_wp2_with fail
                refine (HF.out).mono ?_
                rintro e w1 ⟨rfl, P⟩
                have HN := Lib.hid (HI.out.step hlo2 hsz P)
                clear P HF cg
                go_wp2_with fail
                go_roundw
                case rel => exact ⟨1, by decide, rfl, HN.out⟩
                case measure => simp [intOf]
              · obtain ⟨g, rfl, cg⟩ := book_leaf (i := 1) H2.out HI.out.above rfl (by decide)
                have HF : Hid (Calls Tryz.prog 134 #[.agg #[.slice A1 n1 c1, .int .u8 2, .int .u8 0, .int .u8 1, .int .u8 0, .int .u8 0, .int .u8 0, .int .u8 0, .int .u8 0, .int .u8 0, .int .u8 0, .int .u8 0, .int .u8 0, .int .u8 0, .int .u8 0, .int .u8 0, .int .u8 99, .int .u8 2, .int .u8 0, .int .u8 2, .int .u8 0, .int .u8 0, .int .u8 0, .int .u8 0, .int .u8 0, .int .u8 0, .int .u8 0, .int .u8 0, .int .u8 0, .int .u8 0, .int .u8 0, .int .u8 0, .int .u8 99]] wr (KeptPost wr)) := Lib.hid (keptA (sgY 1) (sgY 2) (sgY_lt (by decide)) (sgY_lt (by decide)) wr HI.out.i1 (HI.out.f1 (by decide)) (HI.out.r1 (by decide)))
                go_wp2_with fail
                refine (HF.out).mono ?_
                rintro e w1 ⟨rfl, P⟩
                have HN := Lib.hid (HI.out.step hlo2 hsz P)
                clear P HF cg
                go_wp2_with fail
                go_roundw
                case rel => exact ⟨2, by decide, rfl, HN.out⟩
                case measure => simp [intOf]
              · obtain ⟨g, rfl, cg⟩ := book_leaf (i := 2) H2.out HI.out.above rfl (by decide)
                have HF : Hid (Calls Tryz.prog 137 #[.agg #[.slice A2 n2 c2, .string ⟨#[105, 110, 100, 97]⟩, .string ⟨#[111, 117, 116, 100, 97]⟩]] wr (KeptPost wr)) := Lib.hid (keptT ⟨#[105, 110, 100, 97]⟩ ⟨#[111, 117, 116, 100, 97]⟩ wr HI.out.i2 (HI.out.f2 (by decide)) (HI.out.r2 (by decide)))
                go_wp2_with fail
                refine (HF.out).mono ?_
                rintro e w1 ⟨rfl, P⟩
                have HN := Lib.hid (HI.out.step hlo2 hsz P)
                clear P HF cg
                go_wp2_with fail
                go_roundw
                case rel => exact ⟨3, by decide, rfl, HN.out⟩
                case measure => simp [intOf]
            · have hk3 : k = 3 := by omega
              try rw [hk3] at HI
              have tk : ¬ (k : Int) < 3 := by omega
              clear hk3 e0
              have e0 := cell_blk ((HI.out.above kb (Nat.le_refl _) hkb).trans H1.out) 0
              simp only [List.getElem?_toArray, List.getElem?_cons_zero] at e0
              go_wp2_with fail
              go_ret
              exact ⟨rfl, HI.out.below⟩
end Go.Proofs.YtfolamkjlgpgmaaGreatDoor

