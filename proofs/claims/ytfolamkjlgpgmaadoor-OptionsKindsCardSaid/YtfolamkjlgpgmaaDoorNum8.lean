/- Some bytes of a cutter as one number: the walk. No condition. -/
import Derived.Test.YtfolamkjlgpgmaaDoorTwins8
namespace Go.Proofs.YtfolamkjlgpgmaaDoor
open Go.RowKit
set_option linter.unusedVariables false
set_option linter.unusedSimpArgs false
/-- bytes, the greatest first, as a number -/
def beN (l : List Nat) : Nat := l.foldl (fun a x => a * 256 + x) 0
theorem beN_snoc (l : List Nat) (x : Nat) : beN (l ++ [x]) = beN l * 256 + x := by simp [beN]
theorem beN_lt {l : List Nat} {k : Nat} (h : ∀ x ∈ l, x < 256) (hl : l.length ≤ k) : beN l < 256 ^ k := by
  have key : ∀ (l : List Nat) (a m : Nat), (∀ x ∈ l, x < 256) → a < 256 ^ m → l.foldl (fun a x => a * 256 + x) a < 256 ^ (m + l.length) := by
    intro l
    induction l with
    | nil => intro a m _ ha; exact ha
    | cons y l ih =>
      intro a m hx ha
      have hy := hx y (by simp)
      have h1 : a * 256 + y < 256 ^ (m + 1) := by rw [Nat.pow_succ]; omega
      have := ih (a * 256 + y) (m + 1) (fun x hx2 => hx x (by simp [hx2])) h1
      rw [List.foldl_cons, List.length_cons, show m + (l.length + 1) = m + 1 + l.length by omega]
      exact this
  have := key l 0 0 h (by decide)
  rw [Nat.zero_add] at this
  exact Nat.lt_of_lt_of_le this (Nat.pow_le_pow_right (by decide) hl)
theorem or_shl {a x : Nat} (ha : a < 16777216) (hx : x < 256) : bits .or .u64 ((a * 256 : Nat) : Int) (x : Int) = ((a * 256 + x : Nat) : Int) := by
  have h := (bits_nat .u64 64 (by decide) (fun n h0 h1 => by simp [IntKind.wrap, IntKind.signed, IntKind.bits]; omega) (a * 256) x (by omega) (by omega)).2
  rw [h]
  congr 1
  have := Nat.shiftLeft_add_eq_or_of_lt (i := 8) (b := x) hx a
  rw [Nat.shiftLeft_eq] at this
  exact this.symm
set_option maxRecDepth 100000 in
set_option maxHeartbeats 1000000 in
theorem num49_be {p g c pos k : Nat} {bs : List Nat} (w : World) (h : CutAt w p g c pos bs) (hk : 0 < k) (hk4 : k ≤ 4) (hk2 : pos + k ≤ bs.length) (hb : ∀ x ∈ bs, x < 256) :
    Calls Tryd.prog 49 #[.pointer (some ⟨p, 0, none⟩), .int .i64 (k : Int)] w fun e w' => e = .returned (.int .u64 (beN ((bs.drop pos).take k) : Nat)) ∧ CutAt w' p g c (pos + k) bs ∧ ∃ o, Turned p o w w' := by
  have HT := Lib.hid (take78_ok k w h hk hk2)
  have t1 : ¬ (k : Int) < 1 := by omega
  have t2 : ¬ (8 : Int) < (k : Int) := by omega
  clear h
  go_enter Tryd.func49, Tryd.ntmps49
  go_wp2_with fail
  refine (HT.out).mono ?_
  rintro e w1 ⟨rfl, h1, o, ht⟩
  have HR := Lib.hid h1.rd
  have HC := Lib.hid h1
  have HO := Lib.hid ht
  have HB := Lib.hid hb
  have HK2 := Lib.hid hk2
  clear h1 ht HT t1 t2 hb
  go_wp2_with fail
  go_loop [4, 17] (fun v i => ∃ j : Nat, j ≤ k ∧ i = .int .i64 j ∧ v = .int .u64 (beN ((bs.drop pos).take j) : Nat)) (fun _ i => (k - intOf i).toNat)
  case atStart => exact ⟨0, Nat.zero_le _, rfl, rfl⟩
  case round =>
    obtain ⟨j, hj, rfl, rfl⟩ := hrel
    by_cases hlt : j < k
    · obtain ⟨x, hx⟩ : ∃ x, bs[pos + j]? = some x := ⟨bs[pos + j]'(by omega), List.getElem?_eq_getElem _⟩
      have c1 := HR.out (pos + j) x hx
      have hx256 := HB.out x (List.mem_of_getElem? hx)
      have HS : Hid (beN ((bs.drop pos).take (j + 1)) = beN ((bs.drop pos).take j) * 256 + x) := Lib.hid (by
        rw [List.take_add_one, List.getElem?_drop, hx]
        exact beN_snoc _ _)
      have ha : beN ((bs.drop pos).take j) < 256 ^ 3 := beN_lt (fun y hy => HB.out y (List.mem_of_mem_drop (List.mem_of_mem_take hy))) (by rw [List.length_take]; omega)
      obtain ⟨a, ea⟩ : ∃ a, beN ((bs.drop pos).take j) = a := ⟨_, rfl⟩
      rw [ea] at HS ha ⊢
      have ha3 : a < 16777216 := ha
      have HZ := Lib.hid (or_shl ha3 hx256)
      have t3 : (j : Int) < (k : Int) := by omega
      clear hx ea ha
      go_wp2_with fail
      refine ⟨⟨j + 1, by omega, by go_num, ?_⟩, by simp [intOf]; omega⟩
      rw [HS.out, ← HZ.out]; congr 1
    · obtain rfl : j = k := by omega
      have t3 : ¬ (j : Int) < (j : Int) := by omega
      go_wp2_with fail
      go_ret
      exact ⟨rfl, HC.out, o, HO.out⟩
end Go.Proofs.YtfolamkjlgpgmaaDoor
