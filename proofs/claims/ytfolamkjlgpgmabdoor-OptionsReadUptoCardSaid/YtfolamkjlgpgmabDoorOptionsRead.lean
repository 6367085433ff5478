/- The law OptionsRead of the given program: for every input of bounded bulk (at most 1048576) the call returns true and what was there reads as it did. No further condition. -/
import Derived.Test.YtfolamkjlgpgmabDoorFrame
import Derived.WalkKit
import Derived.ProofKit
import Derived.OpenShut
import Derived.JoinedCond
import Derived.LaidMore
import Derived.Lay
import Derived.Stop.Joined
import Derived.SevenTiedAt
import Derived.Deep.DeepHandedRow
import Derived.Test.YtfolamkjlgpgmabDoorCards
import Derived.Test.YtfolamkjlgpgmabDoorTie
import Derived.Test.YtfolamkjlgpgmabDoorComeU
import Derived.Test.YtfolamkjlgpgmabDoorReadW
namespace Go.Proofs.YtfolamkjlgpgmabDoor.optionsRead
open Go.ChangeShapes Go.WideShapes Go.ChangeAt Go.RowKit
set_option linter.unusedVariables false
theorem own : ownKnob Tryd.prog.godebug = none := by kernel_rfl
theorem laidOut : laidOutB Tryd.prog = true := by kernel_rfl
theorem readable : ∀ t ∈ (Tryd.f3.params.toList), Tryd.prog.readableRec t = true ∧ t < Tryd.prog.types.size := by
  rw [Tryd.params3]
  intro t ht
  simp only [List.mem_cons, List.not_mem_nil, or_false] at ht
  rcases ht with rfl | rfl
  · exact ⟨by kernel_rfl, of_decide_eq_true (by kernel_rfl)⟩
  · exact ⟨by kernel_rfl, of_decide_eq_true (by kernel_rfl)⟩
theorem contract (H : Type) (enc : TypeId × Value → H) (W : World) (base : Nat) (args : Array Value) (ds gs : List (DataW H)) (before : List MemPlace)
    (hval : ∀ (j : Nat) t v, Tryd.f3.params[j]? = some t → args[j]? = some v → Value.okWide Tryd.prog W .any base t v)
    (hbulk : Rows.uptoBulkAll (ds ++ gs) ≤ 1048576)
    (hS : W.ShapedOpen Tryd.prog)
    (hsz : (DataW.weightsEach Tryd.prog (Tryd.f3.params.toList ++ Rows.optionsReadSpec.plain.varTypes Tryd.prog) (ds ++ gs)).all (· ≤ reachBytes) = true)
    (hW : DataW.Whole enc Tryd.prog Tryd.f3.params.toList Rows.optionsReadSpec.vars false W args.toList ds gs before) :
    Calls Tryd.prog 3 args W fun e W' => ∃ v, e = .returned v ∧ Rows.optionsReadSpec.post enc Tryd.prog Tryd.f3 false true false false W args v W' := by
  have hW' := hW
  obtain ⟨p, q, hA0, hV, rfl, hfz, hnd⟩ := hW
  have hA : DataW.TrodAll enc Tryd.prog W 0 (fun _ => true) true Tryd.f3.params.toList args.toList ds p := hA0
  rw [Tryd.params3] at hA hval hsz
  obtain ⟨v0, vs0, d0, ds0, p0, q0, hargs, rfl, rfl, h0, r0⟩ := trodAll_cons hA
  obtain ⟨v1, vs1, d1, ds1, p1, q1, rfl, rfl, rfl, h1, r1⟩ := trodAll_cons r0
  obtain ⟨rfl, rfl, rfl⟩ := trodAll_nil r1
  obtain rfl : args = #[v0, v1] := by cases args; simp_all
  obtain ⟨rfl, rfl⟩ := trodVars_none hV
  clear hA0
  have hb0 : Rows.uptoBulk d0 ≤ 1048576 := Nat.le_trans (bulk_mem ([d0, d1] ++ []) 0 d0 rfl) hbulk
  obtain ⟨f0, g0⟩ := h0
  obtain ⟨kd, bits, vv, pp, nn, bC, sC, dC, mm, xx, qq, on, auto, bA, sA, dA, B, S, D, e0, k1, k2, k3, k4, k5, k6, k7, k8, k9, k10, k11, k12, k13, k14⟩ := parts_come g0 (reach_at hsz (j := 0) rfl rfl)
  obtain ⟨l1, l2, l3⟩ := parts_bulk g0 (sA := sA) (ns := S.length) (sC := sC) (dA := dA) (nd := D.length) (dC := dC) (by rw [e0]; rfl) (by rw [e0]; rfl)
  have hz : ∀ s ∈ D, s.size ≤ 1048576 := fun s hs => by
    obtain ⟨i, hi, rfl⟩ := List.getElem_of_mem hs
    obtain ⟨b, o, eA, _, hc⟩ := k9 (fun e => by rw [e] at hi; simp at hi)
    exact Nat.le_trans (l3 b o eA i D[i] hi (hc i D[i] (List.getElem?_eq_getElem hi))) hb0
  obtain rfl := agg_of e0 (by simp)
  obtain ⟨a1, rfl⟩ := bool_in (P := Tryd.prog) @hval 1 4 v1 rfl rfl Tryd.underlying4 h1
  refine (optionsRead_walk (kb := a1) W k1 k2 k3 k12 k13 k14 k6 rfl (Nat.le_trans l1 hb0) k8 k9 rfl (Nat.le_trans l2 hb0) hz (mx_of_shaped hS)).mono fun e W' ⟨he, hb⟩ => ?_
  exact ⟨_, he, law_post laidOut rfl readable hW' rfl rfl rfl 4 (by rfl) Tryd.underlying4 hb⟩
set_option maxRecDepth 100000 in
theorem witness (os : Os) (H : Type) (enc : TypeId × Value → H) :
    ∃ (w : World) (tape : Tape) (i : Input), w.os = os ∧ (w.forCall tape i).Shaped Tryd.prog ∧ i.vars = [] ∧ Input.okWide Tryd.prog (w.forCall tape i) .any w.heap.size 3 i ∧
      (Rows.OpenSpec.upto Rows.optionsReadSpec).preRow enc Tryd.prog Tryd.f3 [] false laidL (w.forCall tape i).memory i.args ∧ (({} : Assume)).holds Tryd.checked.prog (lone (Frame.enter Tryd.checked.prog 3 i.args .normal) [] (w.forCall tape i)) :=
  by
  obtain ⟨w, tape, i, h1, h2, h3, h4, ⟨⟨_, h5, h6⟩, h7⟩, h8⟩ := ChangeSpec.witness_shaped (enc := enc) (C := Tryd.checked) (os := os) (fn := Tryd.f3) (f := 3) (s := Rows.optionsReadSpec) (conds := []) (apart := false) (X := fun w args => (Rows.OpenSpec.upto Rows.optionsReadSpec).pre enc Tryd.prog Tryd.f3 [] false w args ∧ laidMetH Tryd.prog laidL w) false (World.laidAll Tryd.prog os laidL) #[.agg #[.int .u8 0, .int .u8 0, .int .u8 0, .int .u8 0, .int .u8 0, .int .u8 0, .int .u8 0, .int .u8 0, .int .u8 0, .int .u8 0, .int .u8 0, .int .u8 0, .int .u8 0, .int .u8 0, .int .u8 0, .int .u8 0, .int .u8 0, .int .u8 0, .int .u8 0, .int .u8 0, .int .u8 0, .int .u8 0, .int .u8 0, .int .u8 0, .bool false, .bool false, .int .u32 0, .int .u32 0, .slice none 0 0, .int .u32 0, .int .u8 0, .int .u8 0, .int .u8 0, .int .u8 0, .int .u8 0, .int .u8 0, .slice none 0 0, .slice none 0 0], .bool false] 8 (World.laidAll_os _ _ _) (World.shaped_of_ZipB (by kernel_rfl) (by kernel_rfl)) (by kernel_rfl) (by kernel_rfl) (by kernel_rfl)
    ⟨(OpenSpec.pre_some (s := Rows.OpenSpec.upto Rows.optionsReadSpec) (k := Rows.uptoSmall) rfl [] false _ _).2 ⟨_, _, _, DataW.Whole_of_whole (fuel := 8) (x := ([.agg [.lit (.int .u8 0), .agg [.lit (.int .u8 0), .lit (.int .u8 0), .lit (.int .u8 0), .lit (.int .u8 0), .lit (.int .u8 0), .lit (.int .u8 0)], .agg [.agg [.agg [.lit (.int .u8 0), .lit (.int .u8 0), .lit (.int .u8 0), .lit (.int .u8 0), .lit (.int .u8 0), .lit (.int .u8 0), .lit (.int .u8 0), .lit (.int .u8 0), .lit (.int .u8 0), .lit (.int .u8 0), .lit (.int .u8 0), .lit (.int .u8 0), .lit (.int .u8 0), .lit (.int .u8 0), .lit (.int .u8 0), .lit (.int .u8 0)], .lit (.int .u8 0)], .lit (.bool false), .lit (.bool false), .lit (.int .u32 0), .lit (.int .u32 0)], .nil, .lit (.int .u32 0), .agg [.lit (.int .u8 0), .lit (.int .u8 0), .lit (.int .u8 0), .lit (.int .u8 0), .lit (.int .u8 0), .lit (.int .u8 0)], .nil, .nil], .lit (.bool false)], [], [])) (by kernel_rfl), rfl, by kernel_rfl⟩,
      by rw [MakeChecks.laidMetH_plain _ _ _ (by kernel_rfl)]; exact laidMet_laidAll _ (by kernel_rfl) (by kernel_rfl)⟩
  exact ⟨w, tape, i, h1, h2, h3, h4, ⟨⟨h5, h6⟩, h7⟩, h8⟩
set_option maxRecDepth 100000 in
theorem lifted (os : Os) (started : os.Started) (H : Type) (enc : TypeId × Value → H) (F : Stop.Interp) :
    ReturnsInHanded {} Tryd.checked os 3 .any ((Rows.OpenSpec.upto Rows.optionsReadSpec).preRow enc Tryd.prog Tryd.f3 [] false laidL)
      (((Rows.OpenSpec.upto Rows.optionsReadSpec).at F).post enc Tryd.prog Tryd.f3 false true false false) := by
  refine returnsInHanded_of_row (C := Tryd.checked) (s := Rows.OpenSpec.upto Rows.optionsReadSpec) own started (by kernel_rfl) Tryd.func3 (witness os H enc) ?_
  intro W base args ds gs before hval hW _ hk hsz hL hS _
  exact contract H enc W base args ds gs before hval (of_decide_eq_true (hk _ rfl)) hS hsz hW
theorem over : Rows.optionsReadUptoRow.holds Tryd.pinned (Rows.OpenSpec.upto Rows.optionsReadSpec) :=
  OpenClaim.holds_of_cond 3 Tryd.f3 rfl rfl rfl rfl rfl rfl rfl ⟨rfl, rfl, rfl, rfl, rfl⟩ rfl rfl rfl rfl rfl (by kernel_rfl) Tryd.func3 (by kernel_rfl)
    (of_decide_eq_true (by kernel_rfl)) (by unfold Func.isWrapper; first | (rw [if_pos (by decide +kernel)]; kernel_rfl) | (rw [if_neg (by decide +kernel)]; exact ⟨rfl, rfl⟩))
    (fun os started H enc _ F => by rw [OpenClaim.pre_eq_preRow]; exact lifted os started H enc F)
theorem proved : Rows.OptionsReadUptoCardSaid :=
  Claim7.holds_tied_plain_at .later [] [.data, .pinned] true (true, "fa44faa8e729378e50cf4bd8fad415304a39120b9edb6a6a3bd12984a139de94") false
    over (fun _ h => by cases h) (by kernel_rfl) (fun _ h => by cases h) optionsReadUpto_row_tie rfl ⟨rfl, rfl⟩ (by kernel_rfl) rfl
    (fun f fn hf hfn => by
      obtain rfl : f = 3 := Option.some.inj ((show Tryd.prog.funcNamed "sojourner/sojournerlaw10.OptionsRead" = some 3 by kernel_rfl).symm.trans hf) |>.symm
      obtain rfl : fn = Tryd.f3 := (Option.some.inj (Tryd.func3.symm.trans hfn)).symm
      exact ⟨by kernel_rfl, fun j t ht => by
        rw [Tryd.params3] at ht
        have hm : t ∈ [35, 4] := by simpa using Array.mem_of_getElem? ht
        have hall : ([35, 4].all fun u => !Tryd.prog.wantsStandIn u) = true := by kernel_rfl
        exact (show Tryd.prog.wantsStandIn t = false by simpa using List.all_eq_true.1 hall t hm)⟩)
    (by kernel_rfl)
end Go.Proofs.YtfolamkjlgpgmabDoor.optionsRead
