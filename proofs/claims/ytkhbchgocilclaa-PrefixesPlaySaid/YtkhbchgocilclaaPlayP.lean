/- The document's list and the map tell the same. Plain. -/
import Derived.Test.YtkhbchgocilclaaPlayG
namespace Go.Proofs.Ytkhbchgocilclaa
open Go.RowKit
set_option linter.unusedVariables false
def Up (L : List Ent) : Prop := L.Pairwise fun a b => numK a.1 < numK b.1
/-- what the fold adds -/
def ins (y : PKey) (t : Nat) (pos can : Bool) : Bool → List Ent → List Ent
  | _, [] => []
  | b, x :: L => if numK x.1 = numK y then (if pos then [(y, t)] else []) ++ ins y t pos can true L
    else if (!b && decide (numK y < numK x.1) && can) = true then (y, t) :: x :: ins y t pos can true L
    else x :: ins y t pos can b L
def hit (y : PKey) (can : Bool) : Bool → List Ent → Bool
  | b, [] => b
  | b, x :: L => if numK x.1 = numK y then hit y can true L
    else if (!b && decide (numK y < numK x.1) && can) = true then hit y can true L
    else hit y can b L
theorem fold_ins (y : PKey) (t : Nat) (pos can : Bool) : ∀ (L : List Ent) (O : List Ent) (b : Bool), L.foldl (refOne y t pos can) (O, b) = (O ++ ins y t pos can b L, hit y can b L)
  | [], O, b => by simp [ins, hit]
  | x :: L, O, b => by
    rw [List.foldl_cons]
    by_cases h1 : numK x.1 = numK y
    · have e : refOne y t pos can (O, b) x = (O ++ (if pos then [(y, t)] else []), true) := by unfold refOne; rw [if_pos h1]; cases pos <;> simp
      have e1 : ins y t pos can b (x :: L) = (if pos then [(y, t)] else []) ++ ins y t pos can true L := by
        show (if numK x.1 = numK y then _ else _) = _
        rw [if_pos h1]
      have e2 : hit y can b (x :: L) = hit y can true L := by
        show (if numK x.1 = numK y then _ else _) = _
        rw [if_pos h1]
      rw [e, e1, e2, fold_ins y t pos can L, List.append_assoc]
    · by_cases h2 : (!b && decide (numK y < numK x.1) && can) = true
      · have e : refOne y t pos can (O, b) x = (O ++ [(y, t)] ++ [x], true) := by unfold refOne; rw [if_neg h1, if_pos h2]
        have e1 : ins y t pos can b (x :: L) = (y, t) :: x :: ins y t pos can true L := by
          show (if numK x.1 = numK y then _ else if _ then _ else _) = _
          rw [if_neg h1, if_pos h2]
        have e2 : hit y can b (x :: L) = hit y can true L := by
          show (if numK x.1 = numK y then _ else if _ then _ else _) = _
          rw [if_neg h1, if_pos h2]
        rw [e, e1, e2, fold_ins y t pos can L]; simp
      · have e : refOne y t pos can (O, b) x = (O ++ [x], b) := by unfold refOne; rw [if_neg h1, if_neg h2]
        have e1 : ins y t pos can b (x :: L) = x :: ins y t pos can b L := by
          show (if numK x.1 = numK y then _ else if _ then _ else _) = _
          rw [if_neg h1, if_neg h2]
        have e2 : hit y can b (x :: L) = hit y can b L := by
          show (if numK x.1 = numK y then _ else if _ then _ else _) = _
          rw [if_neg h1, if_neg h2]
        rw [e, e1, e2, fold_ins y t pos can L]; simp
theorem fold_is (y : PKey) (t : Nat) (pos can : Bool) (L : List Ent) : refFold y t pos can L = (ins y t pos can false L, hit y can false L) := by
  unfold refFold; rw [fold_ins]; simp
theorem hit_true (y : PKey) (can : Bool) : ∀ L : List Ent, hit y can true L = true
  | [] => rfl
  | x :: L => by
    unfold hit
    split
    · exact hit_true y can L
    · split
      · exact hit_true y can L
      · exact hit_true y can L
/-- nothing is put in where it may not be -/
theorem ins_none (y : PKey) (t : Nat) (pos : Bool) {can b : Bool} (h : (!b && can) = false) : ∀ L : List Ent, (∀ e ∈ L, numK e.1 ≠ numK y) → ins y t pos can b L = L ∧ hit y can b L = b
  | [], _ => ⟨rfl, rfl⟩
  | x :: L, hL => by
    have ih := ins_none y t pos h L (fun e he => hL e (by simp [he]))
    have h1 : ¬ numK x.1 = numK y := hL x (by simp)
    have h2 : ¬ (!b && decide (numK y < numK x.1) && can) = true := by cases b <;> cases can <;> simp_all
    unfold ins hit
    simp only [if_neg h1, if_neg h2, ih]
    simp
/-- the prefix is there: its entry is turned, or taken out -/
theorem ins_there (y : PKey) (t : Nat) (pos : Bool) : ∀ L : List Ent, Up L → (∃ e ∈ L, numK e.1 = numK y) →
    hit y false false L = true ∧ Up (ins y t pos false false L) ∧ (∀ e, e ∈ ins y t pos false false L ↔ (e ∈ L ∧ numK e.1 ≠ numK y) ∨ (pos = true ∧ e = (y, t))) ∧ (∀ z, (∀ e ∈ L, z < numK e.1) → ∀ e ∈ ins y t pos false false L, z < numK e.1)
  | [], _, h => by obtain ⟨e, he, _⟩ := h; cases he
  | x :: L, hU, h => by
    obtain ⟨hx, hU'⟩ := List.pairwise_cons.1 hU
    by_cases h1 : numK x.1 = numK y
    · have hno : ∀ e ∈ L, numK e.1 ≠ numK y := fun e he q => by have := hx e he; omega
      have hi := ins_none y t pos (can := false) (b := true) rfl L hno
      have e1 : ins y t pos false false (x :: L) = (if pos then [(y, t)] else []) ++ L := by
        show (if numK x.1 = numK y then _ else _) = _
        rw [if_pos h1, hi.1]
      have e2 : hit y false false (x :: L) = true := by
        show (if numK x.1 = numK y then _ else _) = _
        rw [if_pos h1]; exact hi.2
      refine ⟨e2, ?_, fun e => ?_, fun z hz e he => ?_⟩
      · rw [e1]
        cases pos
        · exact hU'
        · exact List.pairwise_cons.2 ⟨fun e he => by show numK y < _; have := hx e he; omega, hU'⟩
      · rw [e1]
        cases pos
        · simp only [Bool.false_eq_true, if_false, List.nil_append, false_and, or_false]
          constructor
          · intro he; exact ⟨by simp [he], hno e he⟩
          · rintro ⟨he, hne⟩
            rcases List.mem_cons.1 he with rfl | he
            · exact absurd h1 hne
            · exact he
        · simp only [if_true, List.cons_append, List.nil_append, List.mem_cons, true_and]
          constructor
          · rintro (he | he)
            · exact .inr he
            · exact .inl ⟨.inr he, hno e he⟩
          · rintro (⟨he | he, hne⟩ | he)
            · rw [he] at hne; exact absurd h1 hne
            · exact .inr he
            · exact .inl he
      · rw [e1] at he
        have hzx := hz x (by simp)
        cases pos
        · exact hz e (by simp at he; simp [he])
        · rcases List.mem_cons.1 (by simpa using he) with rfl | he
          · show z < numK y; omega
          · exact hz e (by simp [he])
    · obtain ⟨q, hq, hqy⟩ := h
      have hq' : q ∈ L := by
        rcases List.mem_cons.1 hq with rfl | h
        · exact absurd hqy h1
        · exact h
      obtain ⟨i1, i2, i3, i4⟩ := ins_there y t pos L hU' ⟨q, hq', hqy⟩
      have e1 : ins y t pos false false (x :: L) = x :: ins y t pos false false L := by
        show (if numK x.1 = numK y then _ else if _ then _ else _) = _
        rw [if_neg h1, if_neg (by simp)]
      have e2 : hit y false false (x :: L) = hit y false false L := by
        show (if numK x.1 = numK y then _ else if _ then _ else _) = _
        rw [if_neg h1, if_neg (by simp)]
      refine ⟨by rw [e2]; exact i1, ?_, fun e => ?_, fun z hz e he => ?_⟩
      · rw [e1]; exact List.pairwise_cons.2 ⟨i4 _ (fun e he => hx e he), i2⟩
      · rw [e1, List.mem_cons, i3]
        constructor
        · rintro (rfl | ⟨h2, h3⟩ | h2)
          · exact .inl ⟨by simp, h1⟩
          · exact .inl ⟨by simp [h2], h3⟩
          · exact .inr h2
        · rintro (⟨h2, h3⟩ | h2)
          · rcases List.mem_cons.1 h2 with rfl | h2
            · exact .inl rfl
            · exact .inr (.inl ⟨h2, h3⟩)
          · exact .inr (.inr h2)
      · rw [e1] at he
        rcases List.mem_cons.1 he with rfl | he
        · exact hz _ (by simp)
        · exact i4 z (fun e he => hz e (by simp [he])) e he
/-- the prefix is not there and may be put in -/
theorem ins_new (y : PKey) (t : Nat) (pos : Bool) : ∀ L : List Ent, Up L → (∀ e ∈ L, numK e.1 ≠ numK y) →
    Up (if hit y true false L = true then ins y t pos true false L else ins y t pos true false L ++ [(y, t)]) ∧
    (∀ e, e ∈ (if hit y true false L = true then ins y t pos true false L else ins y t pos true false L ++ [(y, t)]) ↔ e ∈ L ∨ e = (y, t)) ∧
    (∀ z, z < numK y → (∀ e ∈ L, z < numK e.1) → ∀ e ∈ (if hit y true false L = true then ins y t pos true false L else ins y t pos true false L ++ [(y, t)]), z < numK e.1)
  | [], _, _ => by
    simp only [hit, ins]
    simp [Up]
  | x :: L, hU, hno => by
    obtain ⟨hx, hU'⟩ := List.pairwise_cons.1 hU
    have h1 : ¬ numK x.1 = numK y := hno x (by simp)
    have hno' : ∀ e ∈ L, numK e.1 ≠ numK y := fun e he => hno e (by simp [he])
    by_cases h2 : numK y < numK x.1
    · have hi := ins_none y t pos (can := true) (b := true) rfl L hno'
      have e1 : ins y t pos true false (x :: L) = (y, t) :: x :: L := by
        show (if numK x.1 = numK y then _ else if _ then _ else _) = _
        rw [if_neg h1, if_pos (by simpa using h2), hi.1]
      have e2 : hit y true false (x :: L) = true := by
        show (if numK x.1 = numK y then _ else if _ then _ else _) = _
        rw [if_neg h1, if_pos (by simpa using h2)]; exact hi.2
      simp only [e2, if_true, e1]
      refine ⟨List.pairwise_cons.2 ⟨fun e he => ?_, hU⟩, fun e => ?_, fun z hz hzL e he => ?_⟩
      · show numK y < _
        rcases List.mem_cons.1 he with rfl | he
        · exact h2
        · have := hx e he; omega
      · simp only [List.mem_cons]
        constructor
        · rintro (h | h | h)
          · exact .inr h
          · exact .inl (.inl h)
          · exact .inl (.inr h)
        · rintro ((h | h) | h)
          · exact .inr (.inl h)
          · exact .inr (.inr h)
          · exact .inl h
      · rcases List.mem_cons.1 he with rfl | he
        · exact hz
        · exact hzL e he
    · obtain ⟨i1, i2, i3⟩ := ins_new y t pos L hU' hno'
      have e1 : ins y t pos true false (x :: L) = x :: ins y t pos true false L := by
        show (if numK x.1 = numK y then _ else if _ then _ else _) = _
        rw [if_neg h1, if_neg (by simpa using h2)]
      have e2 : hit y true false (x :: L) = hit y true false L := by
        show (if numK x.1 = numK y then _ else if _ then _ else _) = _
        rw [if_neg h1, if_neg (by simpa using h2)]
      have e3 : (if hit y true false (x :: L) = true then ins y t pos true false (x :: L) else ins y t pos true false (x :: L) ++ [(y, t)]) = x :: (if hit y true false L = true then ins y t pos true false L else ins y t pos true false L ++ [(y, t)]) := by
        rw [e1, e2]; split <;> simp
      rw [e3]
      refine ⟨List.pairwise_cons.2 ⟨i3 _ (by omega) (fun e he => hx e he), i1⟩, fun e => ?_, fun z hz hzL e he => ?_⟩
      · rw [List.mem_cons, i2, List.mem_cons]
        constructor
        · rintro (h | h | h)
          · exact .inl (.inl h)
          · exact .inl (.inr h)
          · exact .inr h
        · rintro ((h | h) | h)
          · exact .inl h
          · exact .inr (.inl h)
          · exact .inr (.inr h)
      · rcases List.mem_cons.1 he with rfl | he
        · exact hzL _ (by simp)
        · exact i3 z hz (fun e he => hzL e (by simp [he])) e he
end Go.Proofs.Ytkhbchgocilclaa
