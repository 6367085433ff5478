/- What may be read of an option of each kind, with a byte more, a byte fewer, of another kind: plain facts. No condition. (Printed by gKindsP.py.) -/
import Derived.Test.YtfolamkjlgpgmaaDoorCount
import Derived.Test.YtfolamkjlgpgmaaDoorAccK
namespace Go.Proofs.YtfolamkjlgpgmaaDoor
open Go.RowKit
set_option linter.unusedVariables false
/-- what is asked of an option that is made of kind kd0, read as one of kind kd -/
structure Fine (kd kd0 : Nat) (l : List Nat) : Prop where
  pos : 0 < l.length
  many : l.length ≤ 100000000
  bytes : ∀ x ∈ l, x < 256
  more : countR kd0 (l ++ [0]) = 0
  less : countR kd0 l.dropLast = 0
  other : kd ≠ kd0 → (countR kd l == 1) = (l.length == 6 && (kd == 1 || kd == 2 || kd == 5))
  few : countR kd l ≤ 1
theorem count_none {kd : Nat} {l : List Nat} (h6 : l.length ≠ 6) (h30 : l.length ≠ 30) (hs : ¬ (22 ≤ l.length ∧ l.length % 16 = 6)) : countR kd l = 0 := by
  unfold countR isSrv
  rw [decide_eq_false (fun h => h6 h.1), decide_eq_false (fun h => h30 h.1), decide_eq_false (fun h => h6 h.1), decide_eq_false hs, Bool.and_false]
  rfl
theorem count_six {kd : Nat} {l : List Nat} (h6 : l.length = 6) : countR kd l = b2n (kd == 1 || kd == 2) + b2n (kd == 5) := by
  unfold countR isSrv
  rw [h6]
  have e : ∀ b : Bool, decide (6 = 6 ∧ b = true) = b := fun b => by cases b <;> rfl
  have e2 : ∀ b : Bool, decide (6 = 30 ∧ b = true) = false := fun b => by cases b <;> rfl
  rw [e, e, e2]
  cases (kd == 25) <;> simp [b2n]
theorem count_pre {kd : Nat} {l : List Nat} (h : l.length = 30) : countR kd l = b2n (kd == 3 && decide (num1 l 0 1 ≤ 128)) := by
  unfold countR isSrv
  rw [h]
  have e : ∀ b : Bool, decide (30 = 30 ∧ b = true) = b := fun b => by cases b <;> rfl
  have e2 : ∀ b : Bool, decide (30 = 6 ∧ b = true) = false := fun b => by cases b <;> rfl
  rw [e, e2, e2]
  cases (kd == 25) <;> simp [b2n]
theorem count_srv {kd k : Nat} {l : List Nat} (h : l.length = 6 + k * 16) (hk : 0 < k) : countR kd l = b2n (kd == 25) := by
  unfold countR isSrv
  rw [decide_eq_false (fun h2 => by have := h2.1; omega), decide_eq_false (fun h2 => by have := h2.1; omega), decide_eq_false (fun h2 => by have := h2.1; omega), decide_eq_true (by omega), Bool.and_true]
  simp [b2n]
theorem fine_six {kd kd0 : Nat} {l : List Nat} (h6 : l.length = 6) (hb : ∀ x ∈ l, x < 256) : Fine kd kd0 l := by
  have h3 : kd = 1 ∨ kd = 2 ∨ kd = 5 ∨ (kd ≠ 1 ∧ kd ≠ 2 ∧ kd ≠ 5) := by omega
  refine ⟨by omega, by omega, hb, count_none (by simp; omega) (by simp; omega) (by simp; omega), count_none (by simp; omega) (by simp; omega) (by simp; omega), fun _ => ?_, ?_⟩
  · rw [count_six h6, h6]
    rcases h3 with rfl | rfl | rfl | ⟨a, b, c⟩
    · rfl
    · rfl
    · rfl
    · rw [beq_eq_false_iff_ne.2 a, beq_eq_false_iff_ne.2 b, beq_eq_false_iff_ne.2 c]; rfl
  · rw [count_six h6]
    rcases h3 with rfl | rfl | rfl | ⟨a, b, c⟩
    · decide
    · decide
    · decide
    · rw [beq_eq_false_iff_ne.2 a, beq_eq_false_iff_ne.2 b, beq_eq_false_iff_ne.2 c]; decide
theorem fine_pre {kd : Nat} {l : List Nat} (h : l.length = 30) (hb : ∀ x ∈ l, x < 256) : Fine kd 3 l := by
  refine ⟨by omega, by omega, hb, count_none (by simp; omega) (by simp; omega) (by simp; omega), count_none (by simp; omega) (by simp; omega) (by simp; omega), fun hk => ?_, ?_⟩
  · rw [count_pre h, h, beq_eq_false_iff_ne.2 hk]; rfl
  · rw [count_pre h]; cases (kd == 3 && decide (num1 l 0 1 ≤ 128)) <;> decide
theorem fine_srv {kd k : Nat} {l : List Nat} (h : l.length = 6 + k * 16) (hk : 0 < k) (hm : l.length ≤ 100000000) (hb : ∀ x ∈ l, x < 256) : Fine kd 25 l := by
  refine ⟨by omega, hm, hb, count_none (by simp; omega) (by simp; omega) (by simp; omega), count_none (by simp; omega) (by simp; omega) (by simp; omega), fun hk2 => ?_, ?_⟩
  · rw [count_srv h hk, beq_eq_false_iff_ne.2 hk2, beq_eq_false_iff_ne.2 (show l.length ≠ 6 by omega)]; rfl
  · rw [count_srv h hk]; cases (kd == 25) <;> decide
def madeK (bits v p n : Nat) (m x : Nat → Nat) (on auto : Bool) (S : List (Nat → Nat)) : List (Nat × List Nat) :=
  [(1, [m 0, m 1, m 2, m 3, m 4, m 5]), (3, infoB x bits v p (flagO on auto)), (5, [0, 0] ++ be4 n), (25, servB n S)]
def ownK (i : Nat) : Nat := [1, 3, 5, 25].getD i 0
theorem be4_bytes (n : Nat) : ∀ y ∈ be4 n, y < 256 := by
  intro y hy
  simp only [be4, List.mem_cons, List.not_mem_nil, or_false] at hy
  omega
theorem adr16_bytes {x : Nat → Nat} (h : ∀ j, j < 16 → x j < 256) : ∀ y ∈ adr16 x, y < 256 := by
  intro y hy
  simp only [adr16, List.mem_cons, List.not_mem_nil, or_false] at hy
  rcases hy with rfl | rfl | rfl | rfl | rfl | rfl | rfl | rfl | rfl | rfl | rfl | rfl | rfl | rfl | rfl | rfl <;> exact h _ (by decide)
theorem flag_byte (on auto : Bool) : flagO on auto < 256 := by cases on <;> cases auto <;> decide
theorem fine_all {kd bits v p n : Nat} {m x : Nat → Nat} {on auto : Bool} {S : List (Nat → Nat)} (hm : ∀ j, j < 6 → m j < 256) (hx : ∀ j, j < 16 → x j < 256) (hbits : bits < 256) (hS : ∀ y ∈ S, ∀ j, j < 16 → y j < 256) (hS0 : S ≠ []) (hSl : S.length ≤ 1000000)
    {i kd0 : Nat} {l : List Nat} (h : (madeK bits v p n m x on auto S)[i]? = some (kd0, l)) : kd0 = ownK i ∧ Fine kd kd0 l := by
  have hb4 := fun n => be4_bytes n
  match i, h with
  | 0, h =>
    cases h
    refine ⟨rfl, fine_six rfl fun y hy => ?_⟩
    simp only [List.mem_cons, List.not_mem_nil, or_false] at hy
    rcases hy with rfl | rfl | rfl | rfl | rfl | rfl <;> exact hm _ (by decide)
  | 1, h =>
    cases h
    refine ⟨rfl, fine_pre rfl fun y hy => ?_⟩
    simp only [infoB, List.mem_append, List.mem_cons, List.not_mem_nil, or_false] at hy
    rcases hy with ((((rfl | rfl) | hy) | hy) | hy) | hy
    · exact hbits
    · exact flag_byte on auto
    · exact hb4 v y hy
    · exact hb4 p y hy
    · exact hb4 0 y hy
    · exact adr16_bytes hx y hy
  | 2, h =>
    cases h
    refine ⟨rfl, fine_six rfl fun y hy => ?_⟩
    simp only [List.mem_append, List.mem_cons, List.not_mem_nil, or_false] at hy
    rcases hy with (rfl | rfl) | hy
    · decide
    · decide
    · exact hb4 n y hy
  | 3, h =>
    cases h
    have hl := servB_length n S
    refine ⟨rfl, fine_srv hl (List.length_pos_iff.2 hS0) (by omega) fun y hy => ?_⟩
    simp only [servB, List.mem_append, List.mem_cons, List.not_mem_nil, or_false] at hy
    rcases hy with ((rfl | rfl) | hy) | hy
    · decide
    · decide
    · exact hb4 n y hy
    · obtain ⟨z, hz, hy⟩ := List.mem_flatMap.1 hy
      exact adr16_bytes (hS z hz) y hy
end Go.Proofs.YtfolamkjlgpgmaaDoor
