/- The walks of New, of Take where there is no bucket, and of lives: the chapter's answers are true. No condition. -/
import Derived.Test.YtmmligongchopaaTake
namespace Go.Proofs.Ytmmligongchopaa
open Go.RowKit

/-- w' is w with one block more, o. -/
structure Pushed (o : Obj) (w w' : World) : Prop where
  heap : w'.heap = w.heap.push o
  os : w'.os = w.os
  tape : w'.tape = w.tape
  output : w'.output = w.output
theorem Pushed.size {o : Obj} {w w' : World} (h : Pushed o w w') : w'.heap.size = w.heap.size + 1 := by rw [h.heap]; simp
theorem Pushed.get {o : Obj} {w w' : World} (h : Pushed o w w') : w'.heap[w.heap.size]? = some o := by rw [h.heap]; simp
theorem Pushed.other {o : Obj} {w w' : World} (h : Pushed o w w') {k : Nat} (hk : k < w.heap.size) : w'.heap[k]? = w.heap[k]? := by
  rw [h.heap, Array.getElem?_push, if_neg (by omega)]
theorem Pushed.below {o : Obj} {w w' : World} (h : Pushed o w w') : Below w.heap.size w w' :=
  ⟨h.os, h.tape, h.output, by rw [h.size]; omega, fun _ hk => h.other hk⟩

def mkB (rate burst : Nat) : Bk := ⟨rate, burst * 1000, burst * 1000, 0⟩
theorem mkB_ok {rate burst : Nat} (h1 : rate < 4294967296) (h2 : burst < 4294967296) : (mkB rate burst).Ok :=
  ⟨Nat.le_refl _, by simp only [mkB]; omega, by simp only [mkB]; omega, by simp only [mkB]; omega⟩

set_option maxRecDepth 100000 in
set_option maxHeartbeats 400000 in
theorem new_any (rate burst : Nat) (w : World) (h1 : rate < 4294967296) (h2 : burst < 4294967296) :
    Calls Try.prog 9 #[.int .u32 rate, .int .u32 burst] w fun e w' => e = .returned (.pointer (some ⟨w.heap.size, 0, none⟩)) ∧ Pushed (mkB rate burst).obj w w' := by
  go_enter Try.func9, Try.ntmps9
  go_wp2_with fail
  go_ret
  refine ⟨rfl, ?_⟩
  show Pushed _ w (w.alloc (bk rate (burst * 1000 : Nat) (burst * 1000 : Nat) 0))
  exact ⟨rfl, rfl, rfl, rfl⟩

theorem new_int (rate burst : Int) (w : World) (a1 : 0 ≤ rate) (a2 : 0 ≤ burst) (h1 : rate < 4294967296) (h2 : burst < 4294967296) :
    Calls Try.prog 9 #[.int .u32 rate, .int .u32 burst] w fun e w' => e = .returned (.pointer (some ⟨w.heap.size, 0, none⟩)) ∧ Pushed (mkB rate.toNat burst.toNat).obj w w' := by
  obtain ⟨n, rfl⟩ := Int.eq_ofNat_of_zero_le a1
  obtain ⟨k, rfl⟩ := Int.eq_ofNat_of_zero_le a2
  exact new_any n k w (by omega) (by omega)

theorem take_none (now : Int) (w : World) : Calls Try.prog 11 #[.pointer none, .int .u64 now] w fun e w' => e = .returned (.bool false) ∧ w = w' := by
  go_enter Try.func11, Try.ntmps11
  go_wp2_with fail
  go_ret
  exact ⟨rfl, rfl⟩

theorem take_unmade (b : Nat) (now : Int) (w : World) (h : w.cell? ⟨b, 4, none⟩ = some (.bool false)) : Calls Try.prog 11 #[.pointer (some ⟨b, 0, none⟩), .int .u64 now] w fun e w' => e = .returned (.bool false) ∧ w = w' := by
  go_enter Try.func11, Try.ntmps11
  go_wp2_with fail
  go_ret
  exact ⟨rfl, rfl⟩

theorem take_is (s s' : Bk) (r : Bool) (b : Nat) (now : Int) (w : World) (h : w.heap[b]? = some s.obj) (ok : s.Ok) (h0 : 0 ≤ now) (h1 : now < 18446744073709551616)
    (hr : s.ok now.toNat = r) (hs : s.take now.toNat = s') :
    Calls Try.prog 11 #[.pointer (some ⟨b, 0, none⟩), .int .u64 now] w fun e w' => e = .returned (.bool r) ∧ Turned b s'.obj w w' := by
  subst hr; subst hs
  exact take_any s b now w h ok h0 h1

set_option maxRecDepth 100000 in
set_option maxHeartbeats 400000 in
theorem lives_any (w : World) : Calls Try.prog 8 #[] w fun e w' => e = .returned (.bool true) ∧ Below w.heap.size w w' := by
  go_enter Try.func8, Try.ntmps8
  go_wp2_with fail
  refine (new_int _ _ _ (by omega) (by omega) (by omega) (by omega)).mono ?_
  rintro e w0 ⟨rfl, hp⟩
  have b0 := hp.get
  have z0 : w.heap.size < w0.heap.size := by rw [hp.size]; omega
  have B0 := hp.below
  have k0 : (mkB (10 : Int).toNat (2 : Int).toNat).Ok := mkB_ok (by decide) (by decide)
  go_wp2_with fail
  refine (take_is _ ⟨10, 1000, 2000, 0⟩ true _ _ _ b0 k0 (by omega) (by omega) (by decide) (by rfl)).mono ?_
  rintro e w1 ⟨rfl, t1⟩
  have b1 := t1.get z0
  have z1 : w.heap.size < w1.heap.size := by rw [t1.size]; exact z0
  have B1 := B0.trans (t1.below (Nat.le_refl _))
  have k1 : Bk.Ok ⟨10, 1000, 2000, 0⟩ := ⟨by decide, by decide, by decide, by decide⟩
  clear b0 z0 k0 t1 B0
  go_wp2_with fail
  refine (take_is _ ⟨10, 0, 2000, 0⟩ true _ _ _ b1 k1 (by omega) (by omega) (by decide) (by rfl)).mono ?_
  rintro e w2 ⟨rfl, t2⟩
  have b2 := t2.get z1
  have z2 : w.heap.size < w2.heap.size := by rw [t2.size]; exact z1
  have B2 := B1.trans (t2.below (Nat.le_refl _))
  have k2 : Bk.Ok ⟨10, 0, 2000, 0⟩ := ⟨by decide, by decide, by decide, by decide⟩
  clear b1 z1 k1 t2 B1
  go_wp2_with fail
  refine (take_is _ ⟨10, 990, 2000, 99⟩ false _ _ _ b2 k2 (by omega) (by omega) (by decide) (by rfl)).mono ?_
  rintro e w3 ⟨rfl, t3⟩
  have b3 := t3.get z2
  have z3 : w.heap.size < w3.heap.size := by rw [t3.size]; exact z2
  have B3 := B2.trans (t3.below (Nat.le_refl _))
  have k3 : Bk.Ok ⟨10, 990, 2000, 99⟩ := ⟨by decide, by decide, by decide, by decide⟩
  clear b2 z2 k2 t3 B2
  go_wp2_with fail
  refine (take_is _ ⟨10, 0, 2000, 100⟩ true _ _ _ b3 k3 (by omega) (by omega) (by decide) (by rfl)).mono ?_
  rintro e w4 ⟨rfl, t4⟩
  have b4 := t4.get z3
  have z4 : w.heap.size < w4.heap.size := by rw [t4.size]; exact z3
  have B4 := B3.trans (t4.below (Nat.le_refl _))
  have k4 : Bk.Ok ⟨10, 0, 2000, 100⟩ := ⟨by decide, by decide, by decide, by decide⟩
  clear b3 z3 k3 t4 B3
  go_wp2_with fail
  refine (take_is _ ⟨10, 500, 2000, 150⟩ false _ _ _ b4 k4 (by omega) (by omega) (by decide) (by rfl)).mono ?_
  rintro e w5 ⟨rfl, t5⟩
  have b5 := t5.get z4
  have z5 : w.heap.size < w5.heap.size := by rw [t5.size]; exact z4
  have B5 := B4.trans (t5.below (Nat.le_refl _))
  have k5 : Bk.Ok ⟨10, 500, 2000, 150⟩ := ⟨by decide, by decide, by decide, by decide⟩
  clear b4 z4 k4 t5 B4
  go_wp2_with fail
  refine (take_is _ ⟨10, 0, 2000, 200⟩ true _ _ _ b5 k5 (by omega) (by omega) (by decide) (by rfl)).mono ?_
  rintro e w6 ⟨rfl, t6⟩
  have b6 := t6.get z5
  have z6 : w.heap.size < w6.heap.size := by rw [t6.size]; exact z5
  have B6 := B5.trans (t6.below (Nat.le_refl _))
  have k6 : Bk.Ok ⟨10, 0, 2000, 200⟩ := ⟨by decide, by decide, by decide, by decide⟩
  clear b5 z5 k5 t6 B5
  go_wp2_with fail
  go_ret
  exact ⟨rfl, B6⟩

end Go.Proofs.Ytmmligongchopaa
