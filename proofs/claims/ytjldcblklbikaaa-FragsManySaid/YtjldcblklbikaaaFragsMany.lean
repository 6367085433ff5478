/- The law FragsMany of the given program: for every input the call returns true and what was there reads as it did. No further condition. -/
import Derived.Test.YtjldcblklbikaaaFrame
import Derived.WalkKit
import Derived.ProofKit
import Derived.OpenShut
import Derived.Test.YtjldcblklbikaaaFragsManyW
namespace Go.Proofs.Ytjldcblklbikaaa.fragsMany
open Go.ChangeShapes Go.WideShapes Go.ChangeAt Go.RowKit
set_option linter.unusedVariables false
theorem own : ownKnob Try.prog.godebug = none := by kernel_rfl
theorem laidOut : laidOutB Try.prog = true := by kernel_rfl
theorem readable : ∀ t ∈ (Try.f7.params.toList), Try.prog.readableRec t = true ∧ t < Try.prog.types.size := by
  rw [Try.params7]
  intro t ht
  simp only [List.mem_cons, List.not_mem_nil, or_false] at ht
  rcases ht with rfl | rfl
  · exact ⟨by kernel_rfl, of_decide_eq_true (by kernel_rfl)⟩
  · exact ⟨by kernel_rfl, of_decide_eq_true (by kernel_rfl)⟩
theorem oneIs0 : Go.Proofs.YtjldcblklbikaaaZev.lfOf (Try.prog.underlying 37) = some (Go.Proofs.YtjldcblklbikaaaZev.Lf.int .u32) := by kernel_rfl
theorem rowIs1 : Go.Proofs.YtjldcblklbikaaaZev.isRow Try.prog 66 = true := by kernel_rfl
theorem rowOf1 : Go.Proofs.YtjldcblklbikaaaZev.lfsOf Try.prog 66 = some leavesFragsMany1 := by kernel_rfl
theorem rowN1 : Try.prog.cellsOf 66 = leavesFragsMany1.length := by kernel_rfl
theorem contract (H : Type) (enc : TypeId × Value → H) (W : World) (base : Nat) (args : Array Value) (ds gs : List (DataW H)) (before : List MemPlace)
    (hval : ∀ (j : Nat) t v, Try.f7.params[j]? = some t → args[j]? = some v → Value.okWide Try.prog W .any base t v)
    (hW : DataW.Whole enc Try.prog Try.f7.params.toList Rows.fragsManySpec.vars false W args.toList ds gs before) :
    Calls Try.prog 7 args W fun e W' => ∃ v, e = .returned v ∧ Rows.fragsManySpec.post enc Try.prog Try.f7 false true false false W args v W' := by
  have hW' := hW
  obtain ⟨p, q, hA0, hV, rfl, hfz, hnd⟩ := hW
  have hA : DataW.TrodAll enc Try.prog W 0 (fun _ => true) true Try.f7.params.toList args.toList ds p := hA0
  rw [Try.params7] at hA hval
  obtain ⟨v0, vs0, d0, ds0, p0, q0, hargs, rfl, rfl, h0, r0⟩ := trodAll_cons hA
  obtain ⟨v1, vs1, d1, ds1, p1, q1, rfl, rfl, rfl, h1, r1⟩ := trodAll_cons r0
  obtain ⟨rfl, rfl, rfl⟩ := trodAll_nil r1
  obtain rfl : args = #[v0, v1] := by cases args; simp_all
  obtain ⟨rfl, rfl⟩ := trodVars_none hV
  clear hA0
  have hval := Go.Proofs.YtjldcblklbikaaaZev.MayCome.hide @hval
  have hc0 := Go.Proofs.YtjldcblklbikaaaZev.val_come (P := Try.prog) (d := (.int .u32)) oneIs0 (@hval 0 37 v0 rfl rfl)
  obtain ⟨cs1, rfl, hc1⟩ := Go.Proofs.YtjldcblklbikaaaZev.row_come (P := Try.prog) (ds := leavesFragsMany1) rowIs1 rowOf1 rowN1 (@hval 1 66 v1 rfl rfl)
  refine (fragsMany_walk hc0 hc1 W).mono fun e W' ⟨he, hb⟩ => ?_
  exact ⟨_, he, law_post laidOut rfl readable hW' rfl rfl rfl 4 (by rfl) Try.underlying4 hb⟩
set_option maxRecDepth 100000 in
theorem lifted (os : Os) (started : os.Started) (H : Type) (enc : TypeId × Value → H) :
    ReturnsInHanded {} Try.checked os 7 .any (Rows.fragsManySpec.pre6 enc Try.prog Try.f7 Rows.fragsManyRow.domain false) (Rows.fragsManySpec.post enc Try.prog Try.f7 false true false false) := by
  refine returnsInHanded_of_change (C := Try.checked) own started (by kernel_rfl) Try.func7
    (ChangeSpec.witness6 (enc := enc) (C := Try.checked) false ⟨#[], #[.int .u32 0, .agg #[.int .u8 0, .int .u8 0, .int .u8 0, .int .u8 0, .int .u8 0, .int .u8 0, .int .u8 0, .int .u8 0]], []⟩ 8 (by kernel_rfl) (by kernel_rfl) (by kernel_rfl) (by kernel_rfl)) ?_
  intro W base args ds gs before hval hW _ _
  exact contract H enc W base args ds gs before hval hW
theorem over : Rows.fragsManyRow.holds Try.pinned (OpenSpec.ofChange Rows.fragsManySpec) :=
  OpenClaim.holds_of_wide 7 Try.f7 rfl rfl rfl rfl rfl rfl rfl ⟨rfl, rfl, rfl, rfl, rfl⟩ rfl rfl rfl rfl rfl (by kernel_rfl) Try.func7 (by kernel_rfl)
    (of_decide_eq_true (by kernel_rfl)) (by unfold Func.isWrapper; first | (rw [if_pos (by decide +kernel)]; kernel_rfl) | (rw [if_neg (by decide +kernel)]; exact ⟨rfl, rfl⟩))
    (fun os started H enc _ => lifted os started H enc)
theorem proved : Rows.FragsManySaid :=
  over
end Go.Proofs.Ytjldcblklbikaaa.fragsMany
