/- The walks of bytes.Compare, cmp.Compare and cmp.Or. No condition but that the numbers fit. -/
import Derived.Test.YtkhbchgocilclaaHas
import Derived.Laws.Externs
import Derived.Lib.UnsafeStr
import GoSem.Extern.BytealgCompare
namespace Go.Proofs.Ytkhbchgocilclaa
open Go.RowKit
set_option linter.unusedVariables false

def cmpB (xs ys : List UInt8) : Int := Extern.BytealgCompare.cmp ⟨xs.toArray⟩ ⟨ys.toArray⟩
theorem run_compare40 (a b : Value) (xs ys : List UInt8) (W : World) (h1 : (Extern.Bytes.bytesOf a).run Try.prog W = .ok ⟨xs.toArray⟩ W) (h2 : (Extern.Bytes.bytesOf b).run Try.prog W = .ok ⟨ys.toArray⟩ W) :
    (callFunc 40 #[a, b]).run Try.prog W = .ok (.value (.int .i64 (cmpB xs ys))) W := by
  rw [run_callFunc_extern (e := Extern.BytealgCompare.compare) Try.func40 (by kernel_rfl) (by kernel_rfl) (by kernel_rfl) (by kernel_rfl)]
  show ((do pure (goInt (Extern.BytealgCompare.cmp (← Extern.Bytes.bytesOf a) (← Extern.Bytes.bytesOf b))) : Sem Value).run Try.prog W).andThen _ = _
  simp only [Sem.run_bind, h1, h2, Result.andThen_ok, Sem.run_pure]
  try rfl
theorem run_load : ∀ (l : List UInt8) (a : Addr) (acc : ByteArray) (W : World), (∀ j x, l[j]? = some x → W.cell? (a.add j) = some (.int .u8 x.toNat)) →
    (Extern.Bytes.loadBytes a l.length acc).run Try.prog W = .ok ⟨acc.data ++ l.toArray⟩ W
  | [], a, acc, W, _ => by simp [Extern.Bytes.loadBytes]
  | x :: l, a, acc, W, h => by
    have h0 : W.cell? a = some (.int .u8 x.toNat) := by
      have := h 0 x rfl
      simpa [Addr.add] using this
    have ih := run_load l (a.add 1) (acc.push x) W (fun j y hy => by
      have := h (j + 1) y (by simpa using hy)
      have e : (a.add 1).add j = a.add (j + 1) := by
        unfold Addr.add
        by_cases hj : j = 0
        · subst hj; simp
        · simp [hj]; omega
      rw [e]; exact this)
    have hl : (load a).run Try.prog W = .ok (.int .u8 x.toNat) W := by simp [h0]
    show (Extern.Bytes.loadBytes a (l.length + 1) acc).run Try.prog W = _
    unfold Extern.Bytes.loadBytes
    simp only [Sem.run_bind, hl, Result.andThen_ok]
    have e : ((x.toNat : Int)).toNat.toUInt8 = x := by simp
    rw [e, ih]
    simp
theorem run_bytes {W : World} {B o c : Nat} {xs : List UInt8} (h : ∀ j x, xs[j]? = some x → W.cell? ⟨B, o + j, none⟩ = some (.int .u8 x.toNat)) :
    (Extern.Bytes.bytesOf (.slice (some ⟨B, o, none⟩) xs.length c)).run Try.prog W = .ok ⟨xs.toArray⟩ W := by
  show (Extern.Bytes.loadBytes _ _ _).run _ _ = _
  have := run_load xs ⟨B, o, none⟩ .empty W (fun j x hj => by rw [Addr.add_mid]; exact h j x hj)
  rw [this]
  simp
theorem compare_any (B1 o1 c1 B2 o2 c2 : Nat) (xs ys : List UInt8) (W : World) (h1 : ∀ j x, xs[j]? = some x → W.cell? ⟨B1, o1 + j, none⟩ = some (.int .u8 x.toNat)) (h2 : ∀ j x, ys[j]? = some x → W.cell? ⟨B2, o2 + j, none⟩ = some (.int .u8 x.toNat)) :
    Calls Try.prog 27 #[.slice (some ⟨B1, o1, none⟩) xs.length c1, .slice (some ⟨B2, o2, none⟩) ys.length c2] W fun e w' => e = .returned (.int .i64 (cmpB xs ys)) ∧ W = w' := by
  have hx := run_compare40 _ _ xs ys W (run_bytes (c := c1) h1) (run_bytes (c := c2) h2)
  clear h1 h2
  go_enter Try.func27, Try.ntmps27
  go_wp2_with fail
  go_ret
  exact ⟨rfl, rfl⟩
def cmpU (x y : Nat) : Int := if x < y then -1 else if y < x then 1 else 0
theorem nan_any (x : Nat) (W : World) : Calls Try.prog 41 #[.int .u8 x] W fun e w' => e = .returned (.bool false) ∧ W = w' := by
  go_enter Try.func41, Try.ntmps41
  go_wp2_with fail
  go_ret
  exact ⟨rfl, rfl⟩
theorem cmpU_any (x y : Nat) (W : World) : Calls Try.prog 28 #[.int .u8 x, .int .u8 y] W fun e w' => e = .returned (.int .i64 (cmpU x y)) ∧ W = w' := by
  have n := fun x W => nan_any x W
  by_cases h1 : x < y
  · rw [show cmpU x y = -1 from by unfold cmpU; rw [if_pos h1]]
    go_enter Try.func28, Try.ntmps28
    go_wp2_with (go_at_call 41; refine (n _ _).mono ?_; rintro e w' ⟨rfl, rfl⟩)
    go_ret
    exact ⟨rfl, rfl⟩
  · by_cases h2 : y < x
    · rw [show cmpU x y = 1 from by unfold cmpU; rw [if_neg h1, if_pos h2]]
      go_enter Try.func28, Try.ntmps28
      go_wp2_with (go_at_call 41; refine (n _ _).mono ?_; rintro e w' ⟨rfl, rfl⟩)
      go_ret
      exact ⟨rfl, rfl⟩
    · rw [show cmpU x y = 0 from by unfold cmpU; rw [if_neg h1, if_neg h2]]
      go_enter Try.func28, Try.ntmps28
      go_wp2_with (go_at_call 41; refine (n _ _).mono ?_; rintro e w' ⟨rfl, rfl⟩)
      go_ret
      exact ⟨rfl, rfl⟩
def orI (x y : Int) : Int := if x ≠ 0 then x else y
theorem or_any (B c : Nat) (x y : Int) (W : World) (h0 : W.cell? ⟨B, 0, none⟩ = some (.int .i64 x)) (h1 : W.cell? ⟨B, 1, none⟩ = some (.int .i64 y)) :
    Calls Try.prog 26 #[.slice (some ⟨B, 0, none⟩) 2 c] W fun e w' => e = .returned (.int .i64 (orI x y)) ∧ W = w' := by
  by_cases hx : x = 0
  · subst hx
    by_cases hy : y = 0
    · subst hy
      rw [show orI 0 0 = 0 from rfl]
      go_enter Try.func26, Try.ntmps26
      go_wp2
      refine wp_loop_rounds 3 ?_
      rw [rounds_succ]
      go_wp2
      rw [rounds_succ]
      go_wp2
      rw [rounds_succ]
      go_wp2
      go_ret
      exact ⟨rfl, rfl⟩
    · rw [show orI 0 y = y from rfl]
      go_enter Try.func26, Try.ntmps26
      go_wp2
      refine wp_loop_rounds 3 ?_
      rw [rounds_succ]
      go_wp2
      rw [rounds_succ]
      go_wp2
      go_ret
      exact ⟨rfl, rfl⟩
  · rw [show orI x y = x from by unfold orI; rw [if_pos hx]]
    go_enter Try.func26, Try.ntmps26
    go_wp2
    refine wp_loop_rounds 3 ?_
    rw [rounds_succ]
    go_wp2
    go_ret
    exact ⟨rfl, rfl⟩
end Go.Proofs.Ytkhbchgocilclaa
