/- Two addresses, the same or not. No condition. -/
import Derived.Test.YtkhbchgocilclaaHoldR
import Derived.Stop.BytesEq
import Derived.Outline
import Derived.Deep.RegionHeld3
namespace Go.Proofs.Ytkhbchgocilclaa
open Go.RowKit
set_option linter.unusedVariables false
set_option linter.unusedSimpArgs false

theorem adr_cell {a : Nat → Nat} (ha : ∀ i, i < 16 → a i < 256) : adrCells a = (((List.range 16).map fun i => UInt8.ofNat (a i)).map Extern.Stop.cell).toArray := by
  unfold adrCells adrL
  rw [List.map_map]
  congr 1
  refine List.map_congr_left fun i hi => ?_
  have := ha i (by simpa using hi)
  simp [Extern.Stop.cell, Nat.mod_eq_of_lt this]
def adrNe (a b : Nat → Nat) : Bool := !(((List.range 16).map fun i => UInt8.ofNat (a i)) == ((List.range 16).map fun i => UInt8.ofNat (b i)))
theorem size5 (w : World) : (sizeOf 5).run Try.prog w = .ok 1 w := by
  obtain ⟨i, hi⟩ : ∃ i, Try.prog.info? 5 = some i := Option.isSome_iff_exists.1 (by kernel_rfl)
  have e : Try.prog.cellsOf 5 = 1 := by kernel_rfl
  rw [← e]
  exact run_sizeOf w hi
theorem adr_neq {a b : Nat → Nat} (ha : ∀ i, i < 16 → a i < 256) (hb : ∀ i, i < 16 → b i < 256) (W : World) : (binOp .neq 23 (.agg (adrCells a)) (.agg (adrCells b))).run Try.prog W = .ok (.bool (adrNe a b)) W := by
  rw [adr_cell ha, adr_cell hb, run_neq_struct, run_equalIn_bytes W 9998 23 5 16 (by kernel_rfl) (by kernel_rfl) size5 _ _ (by simp) (by simp)]
  rfl
theorem adrNe_true {a b : Nat → Nat} (h : adrNe a b = true) : ¬ ∀ i, i < 16 → a i = b i := fun e => by
  unfold adrNe at h
  rw [List.map_congr_left (g := fun i => UInt8.ofNat (b i)) (fun i hi => by rw [e i (by simpa using hi)])] at h
  simp at h
theorem first_put {i : Info} (h : learnOk i (.map []) = true) (hv : i.v ≠ 0) : learnD i 0 (.map []) = (DataW.map [] : PD).put i.key (.lit (.int .u64 (i.until_ 0 : Nat))) := by
  unfold learnOk at h
  have ht : tellB i = true := by cases e : tellB i <;> rw [e] at h <;> simp_all
  unfold learnD
  have e0 : Maps.has (.map [] : PD) i.key = false := rfl
  have e1 : Maps.size (.map [] : PD) = 0 := rfl
  have hv' : 0 < i.v := by omega
  rw [ht, e0, e1]
  simp [hv']
/-- a prefix that is told with no seconds is told -/
theorem done_ok {i : Info} {D : PD} (ht : tellB i = true) (hk : Maps.has D i.key = true) : learnOk i D = true := by
  unfold learnOk; rw [ht, hk]; rfl
theorem done_del {i : Info} {D : PD} (now : Nat) (ht : tellB i = true) (hk : Maps.has D i.key = true) (hv : i.v = 0) : learnD i now D = D.del i.key := by
  unfold learnD; rw [ht, hk, decide_eq_true hv]; rfl
theorem none_left {i : Info} {t : Nat} (ok : i.Ok) {D : PD} (hD : D = (DataW.map [] : PD).put i.key (.lit (.int .u64 (t : Nat)))) (hl : LOk D) (hl2 : LOk (D.del i.key)) (x : Nat → Nat) : hasB x (D.del i.key) = linkB x := by
  unfold hasB
  cases h : hasMap x (D.del i.key) with
  | false => rw [Bool.or_false]
  | true =>
    obtain ⟨kl, hk, _⟩ := (hasMap_iff hl2).1 h
    by_cases e : kl = i.key
    · rw [e, Maps.has_del_same] at hk; cases hk
    · rw [Maps.has_del_other e, hD, Maps.has_put_other e] at hk
      cases hk
end Go.Proofs.Ytkhbchgocilclaa
