/- The iterator over the keys of the map of joined groups: the walk. No condition but that each key is an address's. (Written out by exp.py.) -/
import Derived.Test.YthbkjhacnnoolaaDoorGN
import Derived.RangeFuncGives
import Derived.RangeFuncBound
import Derived.Sort.MapsRangeIn
import Derived.WalkKit
import Derived.OwnWalkIn
import Derived.TacticsInMore
import Derived.RegionIn
import Derived.LoopNIn
import Derived.LoopIn
import Derived.Maps.AppendAt
namespace Go.Proofs.YthbkjhacnnoolaaDoor
open Go.RowKit Go.Maps
set_option linter.unusedVariables false
set_option linter.unusedSimpArgs false
def encA (l : List Nat) : Value := .agg (row8 l).toArray
/-- each key is an address's -/
def AdrKeys (D : PD) : Prop := ∀ x, Maps.has D x = true → ∃ l, Adr l ∧ x = kl l
/-- what has come so far -/
structure Coll (D : PD) (left : Lit → Bool) (ss : List (List Nat)) : Prop where
  adr : ∀ l ∈ ss, Adr l
  nodup : ss.Nodup
  has : ∀ l ∈ ss, Maps.has D (kl l) = true ∧ left (kl l) = false
  all : ∀ l, Adr l → Maps.has D (kl l) = true → left (kl l) = false → l ∈ ss
theorem Coll.start (D : PD) : Coll D (Maps.has D) [] := ⟨by simp, by simp, by simp, fun l _ h1 h2 => by rw [h1] at h2; cases h2⟩
theorem Coll.step {D : PD} {left : Lit → Bool} {ss : List (List Nat)} {l : List Nat} (h : Coll D left ss) (hl : Adr l) (h1 : Maps.has D (kl l) = true) (h2 : left (kl l) = true) :
    Coll D (fun z => left z && !z.sameKey (kl l)) (ss ++ [l]) := by
  have hnot : l ∉ ss := fun hm => by rw [(h.has l hm).2] at h2; cases h2
  refine ⟨?_, ?_, ?_, ?_⟩
  · intro x hx
    rcases List.mem_append.1 hx with hx | hx
    · exact h.adr x hx
    · rw [List.mem_singleton.1 hx]; exact hl
  · rw [List.nodup_append]
    refine ⟨h.nodup, by simp, ?_⟩
    intro a ha b hb e
    rw [List.mem_singleton.1 hb] at e
    exact hnot (e ▸ ha)
  · intro x hx
    rcases List.mem_append.1 hx with hx | hx
    · exact ⟨(h.has x hx).1, by simp [(h.has x hx).2]⟩
    · rw [List.mem_singleton.1 hx]
      exact ⟨h1, by simp [WideAt.sameKey_self (isKeyLit_kl l)]⟩
  · intro x hx hh hf
    by_cases e : x = l
    · subst e; simp
    · have hs : (kl x).sameKey (kl l) = false := by
        cases hk : (kl x).sameKey (kl l) with
        | false => rfl
        | true => exact absurd (kl_inj hx hl (WideAt.sameKey_eq hk)) e
      simp [hs] at hf
      exact List.mem_append.2 (.inl (h.all x hx hh hf))
set_option maxRecDepth 100000 in
set_option maxHeartbeats 1000000 in
theorem keys52 (F : Fence) (n : Nat) (h10 : F.fn 52) (hro : F.round = none) (hn : 1 ≤ n) (l Bm b nn : Nat) (D0 : PD) (hAK : AdrKeys D0) (J : List (List Nat) → World → Prop)
    (hY : ∀ pre x W, J pre W → Adr x → pre.length < Maps.size D0 → YieldAt F (n - 1) Tryd.prog l #[encA x] W fun e W' => e = .returned (.bool true) ∧ J (pre ++ [x]) W' ∧ KeepsWalks W W')
    (W : World) (hJ : AbidesFrom W.heap.size J) (hm : W.cell? ⟨Bm, 0, none⟩ = some (.map (some b))) (hown : MJ W b nn D0) (h0 : J [] W) :
    CallsIn F n Tryd.prog 52 #[.func (.yield l) #[] #[], .pointer (some ⟨Bm, 0, none⟩)] W fun e W' => (∃ v, e = .returned v) ∧ ∃ ss : List (List Nat), (∃ left : Lit → Bool, Coll D0 left ss ∧ ∀ x, left x = false) ∧ J ss W' := by
  refine callsIn_of_wp Tryd.func52 rfl h10 ?_ hro
  simp only [Tryd.ntmps52, List.size_toArray, List.length_cons, List.length_nil, Nat.reduceAdd, Nat.reduceSub, Array.replicate_succ, Array.replicate_zero, List.push_toArray, List.append_toArray, List.nil_append, List.cons_append]
  gi_wp2_with (first
    | (gi_at_range; refine wpListIn_range_own _ rfl _ 53 rfl 26 3 keyed Tryd.underlying53 _ b nn _ rfl hown ?_; intro w0 hrg0 hg0 hs0)
    | gi_in)
  go_frame
  gi_loopw [3] (fun _ wr => ∃ (left : Lit → Bool) (cnt : Nat) (ss : List (List Nat)), wr.ranges Tryd.prog 26 (plainElem Tryd.prog 3) b W.heap.size nn D0 left cnt ∧ ss.length + cnt ≤ Maps.size D0 ∧ (∀ x, left x = true → Maps.has D0 x = true) ∧ Coll D0 left ss ∧ J ss wr)
    (fun _ wr => wr.rangeLeft b W.heap.size)
  case atStart =>
    exact ⟨_, _, [], hrg0, by simp, fun x h => h, Coll.start D0, hJ [] W w0 none h0 hg0 (fun r e => by cases e)⟩
  case round =>
    obtain ⟨left, cnt, ss, hrg, hcs, hlh, hC, hJs⟩ := hrel
    gi_wp2_with (first
      | (gi_at_next; refine wpListIn_next_ranges _ rfl _ rfl 26 keyed (plainElem Tryd.prog 3) (fun v : Value => v) (Value.int .i64) (fun key kl hk => ⟨key, rfl⟩) (fun v y hv => by obtain ⟨c, rfl, _⟩ := plainElem_int_inv Tryd.underlying3 hv; exact ⟨c, rfl⟩) b W.heap.size nn _ _ _ rfl hrg ?_ ?_)
      | gi_in)
    · -- nothing is left
      intro hc0 hl0
      gi_wp2
      go_end0
      exact ⟨⟨_, rfl⟩, ss, ⟨left, hC, hl0⟩, hJs⟩
    · -- an entry has come
      intro x c kx yd yp w2 cnt2 hkey hlk hv hat hrg2 hlt hg2 hs2 hen
      obtain ⟨a, ha, rfl⟩ := hAK kx (hlh kx hlk)
      obtain rfl : x = .agg (row8 a).toArray := keyed.inj hkey (keyOf_adr ha)
      have hJ2 : J ss w2 := hJ ss wr w2 (some W.heap.size) hJs hg2 (fun r e => by cases e; exact ⟨Nat.le_refl _, hrg.iter_walk⟩)
      have hJ3 : J ss (w2.alloc (.cells (row8 a).toArray 26)) := hJ ss w2 _ none hJ2 (World.grownBy_alloc _ _ none) (fun r e => by cases e)
      obtain ⟨fn, tmps, assign, body, hy, hR⟩ := hY ss a _ hJ3 ha (by omega)
      have HC := Lib.hid hC
      have HR := Lib.hid hrg2
      have HJ := Lib.hid hJ
      clear hs2 hJ2 hJ3 hC hrg0 hg0 hs0 hJ
      have H4 := Lib.hid (hrg2.of_walks (KeepsWalks.alloc w2 (.cells (row8 a).toArray 26)))
      have HA := Lib.hid ha
      obtain ⟨a0, a1, a2, a3, a4, a5, a6, a7, a8, a9, a10, a11, a12, a13, a14, a15, rfl⟩ := list16 ha.len
      unfold encA at hy
      simp only [row8, List.map_cons, List.map_nil] at hy hen ⊢
      gi_wp2
      have hhas := hlh _ hlk
      refine hR.mono ?_
      rintro e W3 ⟨rfl, hJ3, hk3⟩
      have HK3 := Lib.hid hk3
      clear hR hk3
      gi_wp2
      have hrg3 := H4.out.of_walks HK3.out
      go_roundw
      case rel => exact ⟨_, cnt2, ss ++ [[a0, a1, a2, a3, a4, a5, a6, a7, a8, a9, a10, a11, a12, a13, a14, a15]], hrg3, by simp; omega, fun x h => hlh x (by simp at h; exact h.1), HC.out.step HA.out hhas hlk, hJ3⟩
      case measure => rw [hrg3.left_eq, hrg.left_eq]; exact hlt
end Go.Proofs.YthbkjhacnnoolaaDoor
