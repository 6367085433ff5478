/- The entries sorted, and clipped. No condition. -/
import Derived.Test.YtkhbchgocilclaaNum
import Derived.Test.YtkhbchgocilclaaSort
import Derived.OwnWalk
namespace Go.Proofs.Ytkhbchgocilclaa
open Go.RowKit Go.Sort Go.Shelf Go.Lib
set_option linter.unusedVariables false
instance : Inhabited PKey := ⟨⟨List.replicate 17 0, by simp⟩⟩

theorem flat_at (T : List UInt8 → Nat) : ∀ (ks : List PKey) (i c : Nat) (k : PKey), ks[i]? = some k → c < 18 → (ks.flatMap (encK T))[i * 18 + c]? = (encK T k)[c]?
  | [], i, c, k, h, _ => by simp at h
  | a :: ks, 0, c, k, h, hc => by
    have h : a = k := by simpa using h
    subst h
    rw [List.flatMap_cons, Nat.zero_mul, Nat.zero_add, List.getElem?_append_left (by rw [encK_length]; exact hc)]
  | a :: ks, i + 1, c, k, h, hc => by
    rw [List.flatMap_cons, List.getElem?_append_right (by rw [encK_length]; omega), encK_length, show (i + 1) * 18 + c - 18 = i * 18 + c from by omega]
    exact flat_at T ks i c k (by simpa using h) hc
theorem encK_one (T : List UInt8 → Nat) (x : PKey) : ∀ v ∈ encK T x, v.oneCell' = true := fun v hv => by
  rcases List.mem_append.1 hv with h | h
  · obtain ⟨b, _, rfl⟩ := List.mem_map.1 h; rfl
  · rw [List.mem_singleton] at h; subst h; rfl
theorem eg25 : ∀ args w, (callFunc 25 args).run Try.prog w = .ok (.enter 25 args) w := enters_of Try.func25 (by kernel_rfl) rfl
theorem cmp25 (T : List UInt8 → Nat) (g size : Nat) (w : World) : CmpLays Try.prog 25 #[] (encK T) 18 cfK g 0 size w :=
  fun _ _ _ _ x y => closure25 T x y _
theorem holds_of_own {T : List UInt8 → Nat} {ks : List PKey} {g cap B : Nat} {w : World} (h : w.ownsRow B 44 18 (.slice (some ⟨g, 0, none⟩) ks.length cap) ks.length (ks.flatMap (encK T))) : HoldsK (encK T) 18 w g 0 ks.toArray ∧ g < w.heap.size := by
  obtain ⟨h0, h1 | ⟨g', cap', cur, e, hb, hg, hn, hm, hs, ht⟩⟩ := h
  · cases h1.1
  · injection e with e1 e2 e3
    injection e1 with e1
    injection e1 with e1
    subst e1 e3
    refine ⟨fun j hj => ?_, lt_of_blk hg⟩
    have hj : j < ks.length * 18 := by simpa using hj
    have hi : j / 18 < ks.length := by omega
    have hk : ks[j / 18]? = some ks[j / 18] := List.getElem?_eq_getElem hi
    have hf := flat_at T ks (j / 18) (j % 18) _ hk (Nat.mod_lt _ (by decide))
    rw [show j / 18 * 18 + j % 18 = j from by omega] at hf
    refine ⟨?_, frozen_blk hg _⟩
    rw [Nat.zero_add, cell_blk hg, show id (flatK (encK T) 18 ks.toArray)[j]! = (flatK (encK T) 18 ks.toArray)[j]! from rfl, get_flatK _ _ _ _ (by simpa using hj)]
    have hc : cur[j]? = (ks.flatMap (encK T))[j]? := by
      rw [← ht, List.getElem?_take_of_lt hj]; simp
    rw [hc, hf]
    have hl : j % 18 < (encK T ks[j / 18]).length := by rw [encK_length]; exact Nat.mod_lt _ (by decide)
    have e1 : (ks.toArray)[j / 18]! = ks[j / 18] := by simp [hi]
    rw [e1, List.getElem?_eq_getElem hl]
    simp [hl]
/-- what the sort leaves -/
structure Sorted (T : List UInt8 → Nat) (ks ks' : List PKey) (g : Nat) (w w' : World) : Prop where
  perm : ks'.Perm ks
  up : ∀ (i j : Nat) (x y : PKey), i < j → ks'[i]? = some x → ks'[j]? = some y → numK x ≤ numK y
  holds : ∀ (i c : Nat) (k : PKey) (x : Value), ks'[i]? = some k → (encK T k)[c]? = some x → w'.cell? ⟨g, i * 18 + c, none⟩ = some x ∧ w'.frozen? ⟨g, i * 18 + c, none⟩ = false
  grown : w.grownBy w' (some g)
theorem sort_any (T : List UInt8 → Nat) (ks : List PKey) (g cap B : Nat) (w : World) (h : w.ownsRow B 44 18 (.slice (some ⟨g, 0, none⟩) ks.length cap) ks.length (ks.flatMap (encK T))) (hn : ks.length < 4611686018427387904) :
    Calls Try.prog 24 #[.slice (some ⟨g, 0, none⟩) ks.length cap, .func (.func 25) #[] #[]] w fun e w' => e = .returned (.tuple #[]) ∧ ∃ ks', Sorted T ks ks' g w w' := by
  obtain ⟨hH, hblk⟩ := holds_of_own h
  have hcon := AnyQ.slices_SortFunc Try.sortE 18 Try.isAgg44 Try.sizeOf44 (encK T) (encK_length T) (encK_one T) cfK swoK 25 #[] g 0 cap ks.toArray w eg25 (cmp25 T g _ w) hH hblk (by simpa using hn)
  change Calls Try.prog 24 _ _ _ at hcon
  rw [List.size_toArray] at hcon
  refine hcon.mono ?_
  rintro e w' ⟨rfl, d', n, os, hp, hs, rfl⟩
  have hsz : d'.size = ks.length := by have := hp.1; simpa using this
  have hh := holdsK_sortWorldK (encK T) 18 w g 0 n ks.toArray d' os hblk hH (by simpa using hsz)
  refine ⟨rfl, d'.toList, ?_, fun i j x y hij hx hy => ?_, fun i c k x hk hx => ?_, ?_⟩
  · have := hp.2.2
    have e1 : d'.extract 0 ks.length = d' := by rw [← hsz]; simp
    have e2 : (ks.toArray.extract 0 ks.length) = ks.toArray := by simp
    rw [e1, e2] at this
    simpa using this
  · have hj : j < d'.size := by have := (List.getElem?_eq_some_iff.1 hy).1; simpa using this
    have := hs i j (Nat.zero_le _) hij (by omega)
    rw [ltK] at this
    have e1 : d'[i]! = x := by rw [getElem!_pos d' i (by omega)]; have := (List.getElem?_eq_some_iff.1 hx).2; simpa using this
    have e2 : d'[j]! = y := by rw [getElem!_pos d' j hj]; have := (List.getElem?_eq_some_iff.1 hy).2; simpa using this
    rw [e1, e2] at this
    simpa using this
  · have hi : i < d'.size := by have := (List.getElem?_eq_some_iff.1 hk).1; simpa using this
    have hc : c < 18 := by have := (List.getElem?_eq_some_iff.1 hx).1; rwa [encK_length] at this
    have hj : i * 18 + c < (flatK (encK T) 18 d').size := by rw [size_flatK]; omega
    have q := hh (i * 18 + c) hj
    rw [Nat.zero_add] at q
    refine ⟨q.1.trans ?_, q.2⟩
    rw [show id (flatK (encK T) 18 d')[i * 18 + c]! = (flatK (encK T) 18 d')[i * 18 + c]! from rfl, get_flatK _ _ _ _ (by simpa using hj), show (i * 18 + c) / 18 = i from by omega, show (i * 18 + c) % 18 = c from by omega]
    have e1 : d'[i]! = k := by rw [getElem!_pos d' i hi]; have := (List.getElem?_eq_some_iff.1 hk).2; simpa using this
    rw [e1]
    have hl := (List.getElem?_eq_some_iff.1 hx).1
    rw [getElem!_pos _ c hl, (List.getElem?_eq_some_iff.1 hx).2]
  · refine ⟨rfl, rfl, rfl, ?_, fun k hk hne => ?_⟩
    · show w.heap.size ≤ ((w.heap.modify g _) ++ os).size
      simp
    · show ((w.heap.modify g _) ++ os)[k]? = _
      rw [Array.getElem?_append_left (by simpa using hk), Array.getElem?_modify, if_neg (fun e => hne (by rw [e]))]
theorem clip_any (p : Option Addr) (n c : Nat) (w : World) (hp : p = none → n = 0 ∧ c = 0) (hn : n ≤ c) (hc : c < 9223372036854775808) :
    Calls Try.prog 29 #[.slice p n c] w fun e w' => e = .returned (.slice p n n) ∧ w = w' := by
  go_enter Try.func29, Try.ntmps29
  go_wp2_with fail
  go_ret
  exact ⟨rfl, rfl⟩
end Go.Proofs.Ytkhbchgocilclaa
