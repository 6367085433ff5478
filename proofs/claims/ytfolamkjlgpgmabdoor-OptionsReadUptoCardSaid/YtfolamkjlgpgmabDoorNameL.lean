/- Is a text a name: the walk. No condition but that it is short. (Printed by gNameL.py.) -/
import Derived.Test.YtfolamkjlgpgmabDoorParts
namespace Go.Proofs.YtfolamkjlgpgmabDoor
open Go.RowKit
set_option linter.unusedVariables false
set_option linter.unusedSimpArgs false
/-- is the rest of a name one, behind so many letters of a part? -/
def nmF : List UInt8 → Nat → Bool
  | [], k => decide (0 < k)
  | x :: s, k => if x = 46 ∧ 0 < k then nmF s 0 else if inS x = true ∧ k < 63 then nmF s (k + 1) else false
theorem nmF_dot {s : List UInt8} {k : Nat} (h : 0 < k) : nmF (46 :: s) k = nmF s 0 := by
  conv => lhs; unfold nmF
  rw [if_pos ⟨rfl, h⟩]
theorem nmF_dot0 {s : List UInt8} : nmF (46 :: s) 0 = false := by unfold nmF; rw [if_neg (fun h => absurd h.2 (Nat.lt_irrefl 0)), if_neg (fun h => by cases h.1)]
theorem nmF_in {s : List UInt8} {x : UInt8} {k : Nat} (hx : x ≠ 46) (h : inS x = true) (hk : k < 63) : nmF (x :: s) k = nmF s (k + 1) := by
  conv => lhs; unfold nmF
  rw [if_neg (fun h => hx h.1), if_pos ⟨h, hk⟩]
theorem nmF_no {s : List UInt8} {x : UInt8} {k : Nat} (hx : x ≠ 46) (h : inS x = false ∨ ¬ k < 63) : nmF (x :: s) k = false := by
  unfold nmF
  rw [if_neg (fun h => hx h.1), if_neg (fun h2 => by rcases h with h | h; rw [h] at h2; cases h2.1; exact h h2.2)]
theorem spl_pre {c : UInt8} : ∀ {q s : List UInt8}, c ∉ q → ∃ r rs, spl c (q ++ s) = (q ++ r) :: rs
  | [], s, _ => by
    cases h : spl c s with
    | nil => exact absurd h (spl_ne c s)
    | cons r rs => exact ⟨r, rs, by simpa using h⟩
  | x :: q, s, h => by
    obtain ⟨r, rs, e⟩ := spl_pre (q := q) (s := s) (fun e => h (List.mem_cons_of_mem _ e))
    refine ⟨r, rs, ?_⟩
    rw [List.cons_append, spl, if_neg (fun e => h (by simp [e])), e]
    rfl
theorem no46 {p : List UInt8} (h : p.all inS = true) : (46 : UInt8) ∉ p := fun h2 => by
  have := List.all_eq_true.1 h 46 h2
  cases this
theorem nmF_spl : ∀ (s p : List UInt8), p.all inS = true → p.length ≤ 63 → nmF s p.length = (spl 46 (p ++ s)).all partOk
  | [], p, hp, hl => by
    rw [List.append_nil, spl_clean (no46 hp)]
    unfold nmF partOk
    cases p with
    | nil => rfl
    | cons y ys => simp only [List.all_cons, List.all_nil, Bool.and_true]; rw [← List.all_cons, hp, decide_eq_true hl]; simp
  | x :: s, p, hp, hl => by
    by_cases h46 : x = 46
    · subst h46
      rw [spl_cut (no46 hp), List.all_cons]
      cases p with
      | nil => rw [List.length_nil, nmF_dot0]; rfl
      | cons y ys =>
        rw [nmF_dot (by simp)]
        have h1 := nmF_spl s [] rfl (by simp)
        rw [List.nil_append, List.length_nil] at h1
        rw [h1]
        have h2 : partOk (y :: ys) = true := by unfold partOk; rw [hp, decide_eq_true hl]; rfl
        rw [h2, Bool.true_and]
    · have e : p ++ x :: s = (p ++ [x]) ++ s := by simp
      cases hin : inS x with
      | true =>
        by_cases h63 : p.length < 63
        · rw [nmF_in h46 hin h63, e]
          have h1 := nmF_spl s (p ++ [x]) (by rw [List.all_append, hp]; simp [hin]) (by rw [List.length_append]; simp; omega)
          rw [List.length_append] at h1
          exact h1
        · rw [nmF_no h46 (.inr h63)]
          have hq : (p ++ [x]).all inS = true := by rw [List.all_append, hp]; simp [hin]
          obtain ⟨r, rs, h1⟩ := spl_pre (q := p ++ [x]) (s := s) (no46 hq)
          rw [e, h1, List.all_cons]
          have h2 : partOk (p ++ [x] ++ r) = false := by
            unfold partOk
            rw [decide_eq_false (by simp; omega)]
            simp
          rw [h2, Bool.false_and]
      | false =>
        rw [nmF_no h46 (.inl hin)]
        obtain ⟨q, h1, h2⟩ := spl_has h46 (s := p ++ x :: s) (x := x) (by simp)
        symm
        rw [List.all_eq_false]
        refine ⟨q, h1, ?_⟩
        have h3 : q.all inS = false := List.all_eq_false.2 ⟨x, h2, by rw [hin]; simp⟩
        unfold partOk
        rw [h3]
        simp
theorem nmF_dom {s : List UInt8} (h : s.length ≤ 253) : nmF s 0 = domOk s := by
  have := nmF_spl s [] rfl (by simp)
  rw [List.nil_append, List.length_nil] at this
  unfold domOk
  rw [this, decide_eq_true h, Bool.true_and]
set_option maxRecDepth 100000 in
set_option maxHeartbeats 4000000 in
theorem name16 (s : ByteArray) (w : World) : Calls Tryd.prog 16 #[.string s] w (BoolPost (domOk s.data.toList) w) := by
  have el : s.data.toList.length = s.size := by simp
  go_enter Tryd.func16, Tryd.ntmps16
  by_cases h253 : s.size ≤ 253
  · have h253' : ¬ (253 : Int) < (s.size : Int) := by omega
    have HD := Lib.hid (nmF_dom (s := s.data.toList) (by rw [el]; exact h253))
    have HEL := Lib.hid el
    clear el
    go_wp2_with fail
    go_loop [3, 4] (fun pv i => ∃ (k m : Nat), k ≤ s.size ∧ pv = .int .i64 m ∧ i = .int .i64 k ∧ nmF (s.data.toList.drop k) m = domOk s.data.toList) (fun _ i => s.size - (intOf i).toNat)
    case atStart => exact ⟨0, 0, Nat.zero_le _, rfl, rfl, HD.out⟩
    case round =>
      obtain ⟨k, m, hk, rfl, rfl, hr⟩ := hrel
      by_cases hks : k < s.size
      · have hx : s.data.toList[k]? = some (s[k]'hks) := by simp [hks]; rfl
        have hdr : s.data.toList.drop k = s[k]'hks :: s.data.toList.drop (k + 1) := by
          rw [List.drop_eq_getElem_cons (by rw [HEL.out]; exact hks)]
          congr 1
        rw [hdr] at hr
        have o2 : (k : Int) < s.size := by omega
        clear hx hdr
        by_cases h46 : (s[k]'hks).toNat = 46
        · have e46 : s[k]'hks = 46 := UInt8.toNat_inj.1 h46
          rw [e46] at hr
          have t46 : (((s[k]'hks).toNat : Int) == 46) = true := by rw [h46]; rfl
          have q1 : ¬ (97 : Int) ≤ ((s[k]'hks).toNat : Int) := by omega
          have q2 : ¬ (48 : Int) ≤ ((s[k]'hks).toNat : Int) := by omega
          have q3 : (((s[k]'hks).toNat : Int) == 45) = false := by rw [beq_eq_false_iff_ne]; omega
          clear e46 h46
          by_cases hm : 0 < m
          · have tm : (0 : Int) < (m : Int) := by omega
            have HR := Lib.hid ((nmF_dot hm).symm.trans hr)
            clear hr
            go_wp2_with fail
            exact ⟨⟨k + 1, 0, by omega, by go_num, by go_num, HR.out⟩, by simp [intOf]; omega⟩
          · obtain rfl : m = 0 := by omega
            have HR := Lib.hid (nmF_dot0.symm.trans hr)
            clear hr
            go_wp2_with fail
            go_ret
            exact ⟨by rw [← HR.out]; rfl, Below.refl _ _⟩
        · have hne : s[k]'hks ≠ 46 := by intro e; rw [e] at h46; exact h46 rfl
          have t46 : (((s[k]'hks).toNat : Int) == 46) = false := by rw [beq_eq_false_iff_ne]; omega
          cases hin : inS (s[k]'hks) with
          | true =>
            have HIN := Lib.hid hin
            unfold inS at hin
            simp only [Bool.or_eq_true, Bool.and_eq_true, decide_eq_true_eq, beq_iff_eq] at hin
            clear h46
            rcases hin with (⟨h1, h2⟩ | ⟨h1, h2⟩) | h1
            · have q1 : (97 : Int) ≤ ((s[k]'hks).toNat : Int) := by omega
              have q2 : ((s[k]'hks).toNat : Int) ≤ 122 := by omega
              by_cases h63 : m < 63
              · have t63 : (m : Int) < 63 := by omega
                have HR := Lib.hid ((nmF_in hne (by rw [HIN.out]) h63).symm.trans hr)
                clear hne hr h63
                go_wp2_with fail
                exact ⟨⟨k + 1, m + 1, by omega, by go_num, by go_num, HR.out⟩, by simp [intOf]; omega⟩
              · have t63 : ¬ (m : Int) < 63 := by omega
                have HR := Lib.hid ((nmF_no hne (.inr h63)).symm.trans hr)
                clear hne hr h63
                go_wp2_with fail
                go_ret
                exact ⟨by rw [← HR.out]; rfl, Below.refl _ _⟩
            · have q1 : ¬ (97 : Int) ≤ ((s[k]'hks).toNat : Int) := by omega
              have q2 : (48 : Int) ≤ ((s[k]'hks).toNat : Int) := by omega
              have q3 : ((s[k]'hks).toNat : Int) ≤ 57 := by omega
              by_cases h63 : m < 63
              · have t63 : (m : Int) < 63 := by omega
                have HR := Lib.hid ((nmF_in hne (by rw [HIN.out]) h63).symm.trans hr)
                clear hne hr h63
                go_wp2_with fail
                exact ⟨⟨k + 1, m + 1, by omega, by go_num, by go_num, HR.out⟩, by simp [intOf]; omega⟩
              · have t63 : ¬ (m : Int) < 63 := by omega
                have HR := Lib.hid ((nmF_no hne (.inr h63)).symm.trans hr)
                clear hne hr h63
                go_wp2_with fail
                go_ret
                exact ⟨by rw [← HR.out]; rfl, Below.refl _ _⟩
            · have q1 : ¬ (97 : Int) ≤ ((s[k]'hks).toNat : Int) := by omega
              have q2 : ¬ (48 : Int) ≤ ((s[k]'hks).toNat : Int) := by omega
              have q3 : (((s[k]'hks).toNat : Int) == 45) = true := by rw [h1]; rfl
              by_cases h63 : m < 63
              · have t63 : (m : Int) < 63 := by omega
                have HR := Lib.hid ((nmF_in hne (by rw [HIN.out]) h63).symm.trans hr)
                clear hne hr h63
                go_wp2_with fail
                exact ⟨⟨k + 1, m + 1, by omega, by go_num, by go_num, HR.out⟩, by simp [intOf]; omega⟩
              · have t63 : ¬ (m : Int) < 63 := by omega
                have HR := Lib.hid ((nmF_no hne (.inr h63)).symm.trans hr)
                clear hne hr h63
                go_wp2_with fail
                go_ret
                exact ⟨by rw [← HR.out]; rfl, Below.refl _ _⟩
          | false =>
            have HR := Lib.hid ((nmF_no hne (.inl hin)).symm.trans hr)
            unfold inS at hin
            simp only [Bool.or_eq_false_iff, Bool.and_eq_false_iff, decide_eq_false_iff_not, beq_eq_false_iff_ne] at hin
            clear hne h46 hr
            have q9 : (((s[k]'hks).toNat : Int) == 45) = false := by rw [beq_eq_false_iff_ne]; omega
            by_cases h97 : (97 : Int) ≤ ((s[k]'hks).toNat : Int)
            · have q2 : ¬ ((s[k]'hks).toNat : Int) ≤ 122 := by omega
              have q3 : (48 : Int) ≤ ((s[k]'hks).toNat : Int) := by omega
              have q4 : ¬ ((s[k]'hks).toNat : Int) ≤ 57 := by omega
              clear hin
              go_wp2_with fail
              go_ret
              exact ⟨by rw [← HR.out]; rfl, Below.refl _ _⟩
            · by_cases h48 : (48 : Int) ≤ ((s[k]'hks).toNat : Int)
              · have q4 : ¬ ((s[k]'hks).toNat : Int) ≤ 57 := by omega
                clear hin
                go_wp2_with fail
                go_ret
                exact ⟨by rw [← HR.out]; rfl, Below.refl _ _⟩
              · clear hin
                go_wp2_with fail
                go_ret
                exact ⟨by rw [← HR.out]; rfl, Below.refl _ _⟩
      · obtain rfl : k = s.size := by omega
        have hr2 : decide (0 < m) = domOk s.data.toList := by
          rw [← hr, List.drop_of_length_le (by rw [HEL.out]; exact Nat.le_refl _)]
          rfl
        have o2 : ¬ (s.size : Int) < s.size := by omega
        have HR := Lib.hid hr2
        clear hr hr2
        go_wp2_with fail
        go_ret
        refine ⟨?_, Below.refl _ _⟩
        rw [← HR.out]
        congr 2
        try (apply decide_eq_decide.2; omega)
  · have h253' : (253 : Int) < (s.size : Int) := by omega
    have HD : Hid (domOk s.data.toList = false) := Lib.hid (by unfold domOk; rw [el, decide_eq_false h253]; rfl)
    clear el
    go_wp2_with fail
    go_ret
    exact ⟨by rw [HD.out]; rfl, Below.refl _ _⟩
end Go.Proofs.YtfolamkjlgpgmabDoor
