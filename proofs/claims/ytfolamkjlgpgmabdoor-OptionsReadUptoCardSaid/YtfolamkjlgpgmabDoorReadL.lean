/- Options made, put, got and read: the contracts together. No condition but that the parts are few. (Printed by gReadL.py.) -/
import Derived.Test.YtfolamkjlgpgmabDoorEqual
import Derived.Test.YtfolamkjlgpgmabDoorNameB
import Derived.Test.YtfolamkjlgpgmabDoorNameL
import Derived.Test.YtfolamkjlgpgmabDoorDomT
namespace Go.Proofs.YtfolamkjlgpgmabDoor
open Go.RowKit
set_option linter.unusedVariables false
set_option linter.unusedSimpArgs false
theorem made_again {w w1 : World} {kd : Nat} {bs : List Nat} {e : Ending} (hm : MadePost kd bs w e w1) (hk : kd < 256) (hl : bs.length ≤ 2038) (h256 : ∀ y ∈ bs, y < 256) :
    ∃ A c n, e = .returned (.agg #[.int .u8 (kd : Int), .slice A n c]) ∧ Below w.heap.size w w1 ∧ Calls Tryd.prog 5 #[.agg #[.int .u8 (kd : Int), .slice A n c]] w1 (fun e' w2 => ∃ A', e' = .returned (.agg #[.int .u8 (kd : Int), .slice A' (padL bs).length (padL bs).length]) ∧ Bs w2 w2.heap.size A' (padL bs).length (padL bs) ∧ Below w1.heap.size w1 w2) := by
  obtain ⟨A, c, k, rfl, h1, h2, ho, hb⟩ := hm
  exact ⟨A, c, _, rfl, hb, again5 w1 (bs_cap (own_bs0 ho) h1 h2) hk hl h256⟩
def M6 (m : Nat → Nat) : List Nat := [m 0, m 1, m 2, m 3, m 4, m 5]
theorem read_mac {kd : Nat} {m : Nat → Nat} {W : World} {A : Option Addr} (hkd : kd = 1 ∨ kd = 2) (h : Bs W W.heap.size A (padL (M6 m)).length (padL (M6 m))) :
    Calls Tryd.prog 4 #[.agg #[.int .u8 (kd : Int), .slice A (padL (M6 m)).length (padL (M6 m)).length]] W fun e w' => e = .returned (.tuple #[.agg #[.int .u8 (m 0 : Int), .int .u8 (m 1 : Int), .int .u8 (m 2 : Int), .int .u8 (m 3 : Int), .int .u8 (m 4 : Int), .int .u8 (m 5 : Int)], .bool true]) ∧ Below W.heap.size W w' := by
  have e : padL (M6 m) = M6 m := padL_id (by show (6 + 2) % 8 = 0; decide) (by show 6 ≤ 2038; decide)
  rw [e] at h ⊢
  have hk : (kd == 1 || kd == 2) = true := by rcases hkd with rfl | rfl <;> rfl
  have h1 := mac74 (kd := kd) W h (by show 6 ≤ 1000000000; decide)
  rw [if_pos ⟨rfl, hk⟩, decide_eq_true (show (M6 m).length = 6 ∧ _ from ⟨rfl, hk⟩)] at h1
  exact h1
theorem flag_on (on auto : Bool) : onB (flagO on auto) 128 = on ∧ onB (flagO on auto) 64 = auto := by
  cases on <;> cases auto <;> exact ⟨by decide, by decide⟩
theorem masked_congr {a b : Nat → Nat} {n j : Nat} (h : a j = b j) : masked a n j = masked b n j := by unfold masked; rw [h]
theorem pre_info {x : Nat → Nat} {bits v p : Nat} {on auto : Bool} (hv : v < 4294967296) (hp : p < 4294967296) : preC (infoB x bits v p (flagO on auto)) = #[.int .u8 (masked x bits 0 : Int), .int .u8 (masked x bits 1 : Int), .int .u8 (masked x bits 2 : Int), .int .u8 (masked x bits 3 : Int), .int .u8 (masked x bits 4 : Int), .int .u8 (masked x bits 5 : Int), .int .u8 (masked x bits 6 : Int), .int .u8 (masked x bits 7 : Int), .int .u8 (masked x bits 8 : Int), .int .u8 (masked x bits 9 : Int), .int .u8 (masked x bits 10 : Int), .int .u8 (masked x bits 11 : Int), .int .u8 (masked x bits 12 : Int), .int .u8 (masked x bits 13 : Int), .int .u8 (masked x bits 14 : Int), .int .u8 (masked x bits 15 : Int), .int .u8 (bits : Int), .bool on, .bool auto, .int .u32 (v : Int), .int .u32 (p : Int)] := by
  have e0 : num1 (infoB x bits v p (flagO on auto)) 0 1 = bits := by
    show beN [bits] = bits
    simp [beN]
  have e1 : num1 (infoB x bits v p (flagO on auto)) 1 1 = flagO on auto := by
    show beN [flagO on auto] = _
    simp [beN]
  have e2 : num1 (infoB x bits v p (flagO on auto)) 2 4 = v := by
    show beN (be4 v) = v
    exact beN_be4 hv
  have e6 : num1 (infoB x bits v p (flagO on auto)) 6 4 = p := by
    show beN (be4 p) = p
    exact beN_be4 hp
  unfold preC
  rw [e0, e1, e2, e6, (flag_on on auto).1, (flag_on on auto).2]
  have ea : ∀ j, j < 16 → masked (adrOf (infoB x bits v p (flagO on auto))) bits j = masked x bits j := fun j hj => masked_congr (by
    match j, hj with
    | 0, _ => rfl
    | 1, _ => rfl
    | 2, _ => rfl
    | 3, _ => rfl
    | 4, _ => rfl
    | 5, _ => rfl
    | 6, _ => rfl
    | 7, _ => rfl
    | 8, _ => rfl
    | 9, _ => rfl
    | 10, _ => rfl
    | 11, _ => rfl
    | 12, _ => rfl
    | 13, _ => rfl
    | 14, _ => rfl
    | 15, _ => rfl
    | j + 16, hj => exact absurd hj (by omega))
  rw [ea 0 (by decide), ea 1 (by decide), ea 2 (by decide), ea 3 (by decide), ea 4 (by decide), ea 5 (by decide), ea 6 (by decide), ea 7 (by decide), ea 8 (by decide), ea 9 (by decide), ea 10 (by decide), ea 11 (by decide), ea 12 (by decide), ea 13 (by decide), ea 14 (by decide), ea 15 (by decide)]
theorem read_pre {x : Nat → Nat} {bits v p : Nat} {on auto : Bool} {W : World} {A : Option Addr} (hv : v < 4294967296) (hp : p < 4294967296) (h256 : ∀ y ∈ infoB x bits v p (flagO on auto), y < 256) (h : Bs W W.heap.size A (padL (infoB x bits v p (flagO on auto))).length (padL (infoB x bits v p (flagO on auto)))) :
    Calls Tryd.prog 7 #[.agg #[.int .u8 3, .slice A (padL (infoB x bits v p (flagO on auto))).length (padL (infoB x bits v p (flagO on auto))).length]] W fun e w' => e = .returned (.tuple #[.agg (if bits ≤ 128 then #[.int .u8 (masked x bits 0 : Int), .int .u8 (masked x bits 1 : Int), .int .u8 (masked x bits 2 : Int), .int .u8 (masked x bits 3 : Int), .int .u8 (masked x bits 4 : Int), .int .u8 (masked x bits 5 : Int), .int .u8 (masked x bits 6 : Int), .int .u8 (masked x bits 7 : Int), .int .u8 (masked x bits 8 : Int), .int .u8 (masked x bits 9 : Int), .int .u8 (masked x bits 10 : Int), .int .u8 (masked x bits 11 : Int), .int .u8 (masked x bits 12 : Int), .int .u8 (masked x bits 13 : Int), .int .u8 (masked x bits 14 : Int), .int .u8 (masked x bits 15 : Int), .int .u8 (bits : Int), .bool on, .bool auto, .int .u32 (v : Int), .int .u32 (p : Int)] else #[.int .u8 0, .int .u8 0, .int .u8 0, .int .u8 0, .int .u8 0, .int .u8 0, .int .u8 0, .int .u8 0, .int .u8 0, .int .u8 0, .int .u8 0, .int .u8 0, .int .u8 0, .int .u8 0, .int .u8 0, .int .u8 0, .int .u8 0, .bool false, .bool false, .int .u32 0, .int .u32 0]), .bool (decide (bits ≤ 128))]) ∧ Below W.heap.size W w' := by
  have e : padL (infoB x bits v p (flagO on auto)) = infoB x bits v p (flagO on auto) := padL_id (by show (30 + 2) % 8 = 0; decide) (by show 30 ≤ 2038; decide)
  rw [e] at h ⊢
  have h1 := pre75 (kd := 3) W h (by show 30 ≤ 1000000000; decide) h256
  have e0 : num1 (infoB x bits v p (flagO on auto)) 0 1 = bits := by
    show beN [bits] = bits
    simp [beN]
  rw [pre_info hv hp, e0] at h1
  have ec : ((infoB x bits v p (flagO on auto)).length = 30 ∧ (3 == 3 && decide (bits ≤ 128)) = true) = (bits ≤ 128) := by
    apply propext
    constructor
    · intro h; simpa using h.2
    · intro h; exact ⟨rfl, by simpa using h⟩
  simp only [ec] at h1
  exact h1
theorem read_mtu {n : Nat} {W : World} {A : Option Addr} (hn : n < 4294967296) (h256 : ∀ y ∈ [0, 0] ++ be4 n, y < 256) (h : Bs W W.heap.size A (padL ([0, 0] ++ be4 n)).length (padL ([0, 0] ++ be4 n))) :
    Calls Tryd.prog 9 #[.agg #[.int .u8 5, .slice A (padL ([0, 0] ++ be4 n)).length (padL ([0, 0] ++ be4 n)).length]] W fun e w' => e = .returned (.tuple #[.int .u32 (n : Int), .bool true]) ∧ Below W.heap.size W w' := by
  have e : padL ([0, 0] ++ be4 n) = [0, 0] ++ be4 n := padL_id (by show (6 + 2) % 8 = 0; decide) (by show 6 ≤ 2038; decide)
  rw [e] at h ⊢
  have h1 := mtu76 (kd := 5) W h (by show 6 ≤ 1000000000; decide) h256
  have e2 : num1 ([0, 0] ++ be4 n) 2 4 = n := by
    have := num_be4 hn 0 0 []
    rwa [List.append_nil] at this
  have ed : decide (([0, 0] ++ be4 n : List Nat).length = 6 ∧ ((5 : Nat) == 5) = true) = true := decide_eq_true ⟨rfl, rfl⟩
  rw [if_pos ⟨rfl, rfl⟩, ed, e2] at h1
  exact h1
theorem m6_bytes {m : Nat → Nat} (hm : ∀ j, j < 6 → m j < 256) : ∀ y ∈ M6 m, y < 256 := by
  intro y hy
  simp only [M6, List.mem_cons, List.not_mem_nil, or_false] at hy
  rcases hy with rfl | rfl | rfl | rfl | rfl | rfl <;> exact hm _ (by decide)
theorem be4_bytes (n : Nat) : ∀ y ∈ be4 n, y < 256 := by
  intro y hy
  simp only [be4, List.mem_cons, List.not_mem_nil, or_false] at hy
  omega
theorem adr16_bytes {x : Nat → Nat} (h : ∀ j, j < 16 → x j < 256) : ∀ y ∈ adr16 x, y < 256 := by
  intro y hy
  simp only [adr16, List.mem_cons, List.not_mem_nil, or_false] at hy
  rcases hy with rfl | rfl | rfl | rfl | rfl | rfl | rfl | rfl | rfl | rfl | rfl | rfl | rfl | rfl | rfl | rfl <;> exact h _ (by decide)
theorem info_bytes {x : Nat → Nat} {bits v p : Nat} {on auto : Bool} (hx : ∀ j, j < 16 → x j < 256) (hb : bits < 256) : ∀ y ∈ infoB x bits v p (flagO on auto), y < 256 := by
  intro y hy
  simp only [infoB, List.mem_append, List.mem_cons, List.not_mem_nil, or_false] at hy
  rcases hy with ((((rfl | rfl) | hy) | hy) | hy) | hy
  · exact hb
  · cases on <;> cases auto <;> decide
  · exact be4_bytes v y hy
  · exact be4_bytes p y hy
  · exact be4_bytes 0 y hy
  · exact adr16_bytes hx y hy
theorem mtu_bytes (n : Nat) : ∀ y ∈ [0, 0] ++ be4 n, y < 256 := by
  intro y hy
  simp only [List.mem_append, List.mem_cons, List.not_mem_nil, or_false] at hy
  rcases hy with (rfl | rfl) | hy
  · decide
  · decide
  · exact be4_bytes n y hy
theorem serv_bytes {n : Nat} {S : List (Nat → Nat)} (hS : ∀ y ∈ S, ∀ j, j < 16 → y j < 256) : ∀ y ∈ servB n S, y < 256 := by
  intro y hy
  simp only [servB, List.mem_append, List.mem_cons, List.not_mem_nil, or_false] at hy
  rcases hy with ((rfl | rfl) | hy) | hy
  · decide
  · decide
  · exact be4_bytes n y hy
  · obtain ⟨z, hz, hy⟩ := List.mem_flatMap.1 hy
    exact adr16_bytes (hS z hz) y hy
theorem doms_bytes {n : Nat} {D : List ByteArray} : ∀ y ∈ domsB n D, y < 256 := by
  intro y hy
  simp only [domsB, List.mem_append, List.mem_cons, List.not_mem_nil, or_false] at hy
  rcases hy with ((rfl | rfl) | hy) | hy
  · decide
  · decide
  · exact be4_bytes n y hy
  · obtain ⟨s, hs, hy⟩ := List.mem_flatMap.1 hy
    cases hd : domOk s.data.toList with
    | false => unfold domB at hy; rw [hd] at hy; cases hy
    | true =>
      rw [domB_ok hd, List.mem_append, List.mem_singleton] at hy
      rcases hy with hy | rfl
      · obtain ⟨p, hp, hy⟩ := List.mem_flatMap.1 hy
        have h63 := (part_pos ((dom_parts hd).1 p hp)).2
        rcases List.mem_cons.1 hy with rfl | hy
        · omega
        · obtain ⟨z, _, rfl⟩ := List.mem_map.1 hy
          exact z.toNat_lt
      · decide
theorem doms_len {n : Nat} {D : List ByteArray} (h : D.length ≤ 7) : (domsB n D).length ≤ 2038 := by
  have h1 : (D.flatMap fun s => domB s.data.toList).length ≤ 255 * D.length := by
    induction D with
    | nil => exact Nat.le_refl _
    | cons s D ih =>
      have := ih (by simp at h; omega)
      rw [List.flatMap_cons, List.length_append, List.length_cons]
      have h2 : (domB s.data.toList).length ≤ 255 := by
        unfold domB
        cases hd : domOk s.data.toList with
        | false => rw [if_neg (by simp)]; simp
        | true =>
          rw [if_pos rfl, List.length_append, spl_total]
          have := (dom_parts hd).2
          show s.data.toList.length + 1 + 1 ≤ 255
          omega
      omega
  unfold domsB
  rw [List.length_append, List.length_append]
  have : (be4 n).length = 4 := rfl
  simp only [List.length_cons, List.length_nil]
  omega
end Go.Proofs.YtfolamkjlgpgmabDoor
