/- The document's digit, number and split. -/
import Derived.Test.YtepoaapadalnoaaDoorGetE
namespace Go.Proofs.YtepoaapadalnoaaDoor
open Go.RowKit
set_option linter.unusedVariables false
set_option linter.unusedSimpArgs false
def numI : Option Nat → Int
  | some n => n
  | none => -1
theorem grow_keepE {S n : Nat} {e : TypeId} {w wr w' : World} {v : Value} {xs : List Value} {o : Obj} (hS : S < wr.heap.size) (hb : Below S w wr) (hown : wr.ownsRow (S + 1) e 1 v n xs) (hg : (wr.alloc o).grownBy w' v.ownBlock) : w'.heap[S]? = wr.heap[S]? ∧ Below S w w' := by
  have h1 : Below (S + 1) wr (wr.alloc o) := (Below.refl _ _).alloc (by omega) _
  have h2 : Below (S + 1) wr w' := h1.grown hg (by simp; omega) (fun q hq => own_ge hown q hq)
  exact ⟨h2.block S (by omega), hb.trans (h2.mono (by omega))⟩
section
variable {ops : Array Oper} {rest : List Oper} {o : Oper} {a : Act} {Q : Exit → Act → World → Prop} {w : World}
theorem appG1 {t e : TypeId} {bytes : Nat} {z : Value} (ht : Tryd.prog.underlying t = some (.slice e)) (hi : (Tryd.prog.info? e).map (fun i => (i.zero, i.size, i.bytes)) = some (some z, 1, bytes)) (hz1 : z.cells.size = 1)
    (hgd : o.guard = none) (s x : Operand) (ho : o.op = .call { callee := .builtin .append, args := #[s, x], argTypes := #[t, t] })
    (B : Nat) (v : Value) (n : Nat) (xs : List Value) (u : Value) (hu : u.oneCell' = true) (hs : a.eval s = v) (hown : w.ownsRow B e 1 v n xs) (hx : a.eval x = .slice (some ⟨w.heap.size, 0, none⟩) 1 1) (hl : (n + 1) * bytes ≤ 140737488355328) (hl2 : n ≤ 140737488355328) (hB : B ≤ w.heap.size)
    (h : ∀ G cap w', B ≤ G → w'.ownsRow B e 1 (.slice (some ⟨G, 0, none⟩) (n + 1) cap) (n + 1) (xs ++ [u]) → (w.alloc (.cells #[u] e)).grownBy w' v.ownBlock → wpList Tryd.prog ops Q rest (a.put o.dst (.slice (some ⟨G, 0, none⟩) (n + 1) cap)) w') :
    wpList Tryd.prog ops Q (o :: rest) a (w.alloc (.cells #[u] e)) := by
  obtain ⟨i, hi, hz, hs1, hb⟩ := info_parts hi
  refine wpList_append_own _ hgd s x t ho B e i z 1 bytes ht hi hz hs1 hb hz1 (by decide) v n xs hs (hown.alloc _) ⟨w.heap.size, 0, none⟩ 1 1 [u] hx rfl ?news ?one (by unfold maxLen; omega) hl (by simp; omega) ?_
  case news =>
    intro j y hj
    rw [Addr.add_mid, Nat.zero_add]
    exact (cell_blk (heap_alloc_new w (.cells #[u] e)) j).trans (by simpa using hj)
  case one => intro y hy; rw [List.mem_singleton] at hy; subst hy; exact hu
  intro v' w' h1 h2 h3
  obtain ⟨p, cap, rfl, -, hsl⟩ := own_slice h1
  obtain ⟨G, rfl, hG, -⟩ := hsl (by omega)
  exact h G cap w' hG h1 h2
end
set_option maxRecDepth 100000 in
set_option maxHeartbeats 1000000 in
theorem value43 (c : UInt8) (w : World) : Calls Tryd.prog 43 #[.int .u8 (c.toNat : Int)] w fun e w' => e = .returned (.int .i64 (numI (dig c))) ∧ Below w.heap.size w w' := by
  have hc := c.toNat_lt
  obtain ⟨k, hk⟩ : ∃ k, k = c.toNat := ⟨_, rfl⟩
  unfold dig
  rw [← hk] at hc ⊢
  clear hk
  go_enter Tryd.func43, Tryd.ntmps43
  by_cases h1 : 48 ≤ k ∧ k ≤ 57
  · rw [if_pos h1]
    go_wp2_with fail
    go_ret
    refine ⟨?_, Below.refl _ _⟩; show Ending.returned (.int .i64 ((k : Int) - 48)) = _; congr 2; show _ = ((k - 48 : Nat) : Int); omega
  · rw [if_neg h1]
    by_cases h2 : 97 ≤ k ∧ k ≤ 102
    · rw [if_pos h2]
      go_wp2_with fail
      go_ret
      refine ⟨?_, Below.refl _ _⟩; show Ending.returned (.int .i64 ((k : Int) - 97 + 10)) = _; congr 2; show _ = ((k - 87 : Nat) : Int); omega
    · rw [if_neg h2]
      by_cases h3 : 65 ≤ k ∧ k ≤ 70
      · rw [if_pos h3]
        go_wp2_with fail
        go_ret
        refine ⟨?_, Below.refl _ _⟩; show Ending.returned (.int .i64 ((k : Int) - 65 + 10)) = _; congr 2; show _ = ((k - 55 : Nat) : Int); omega
      · rw [if_neg h3]
        have q1 : k < 48 ∨ 57 < k := by omega
        have q2 : k < 97 ∨ 102 < k := by omega
        have q3 : k < 65 ∨ 70 < k := by omega
        clear h1 h2 h3
        rcases q1 with q1 | q1 <;> rcases q2 with q2 | q2 <;> rcases q3 with q3 | q3
        all_goals first
          | (exfalso; omega)
          | (go_wp2_with fail
             go_ret
             exact ⟨rfl, Below.refl _ _⟩)
structure NInv (s : ByteArray) (base k n : Nat) (w wr : World) : Prop where
  below : Below w.heap.size w wr
  rest : numG base 0 s.data.toList = numG base n (s.data.toList.drop k)
  lt : n < 16 ^ k
set_option maxRecDepth 100000 in
set_option maxHeartbeats 1000000 in
theorem number34 (s : ByteArray) (base most : Nat) (hb : 1 ≤ base ∧ base ≤ 16) (hm : most ≤ 4) (w : World) :
    Calls Tryd.prog 34 #[.string s, .int .i64 base, .int .i64 most] w fun e w' => e = .returned (.int .i64 (numI (num base most s.data.toList))) ∧ Below w.heap.size w w' := by
  by_cases h1 : s.size < 1 ∨ most < s.size
  · have hz : num base most s.data.toList = none := by
      rw [num, if_pos]
      rcases h1 with h | h
      · left
        refine List.eq_nil_of_length_eq_zero ?_
        rw [show s.data.toList.length = s.size by simp]; omega
      · right; simpa using h
    have HZ := Lib.hid hz
    clear hz
    go_enter Tryd.func34, Tryd.ntmps34
    rcases h1 with h1 | h1
    · go_wp2_with fail
      go_ret
      exact ⟨by rw [HZ.out]; rfl, Below.refl _ _⟩
    · by_cases h2 : s.size < 1
      · exfalso; omega
      · go_wp2_with fail
        go_ret
        exact ⟨by rw [HZ.out]; rfl, Below.refl _ _⟩
  · have hz : num base most s.data.toList = numG base 0 s.data.toList := by
      rw [num, if_neg]
      rintro (h | h)
      · have := congrArg List.length h
        rw [show s.data.toList.length = s.size by simp, List.length_nil] at this; omega
      · simp at h; omega
    have HZ := Lib.hid hz
    clear hz
    have h2 : ¬ (s.size < 1) := by omega
    have h3 : ¬ (most < s.size) := by omega
    clear h1
    go_enter Tryd.func34, Tryd.ntmps34
    go_wp2_with fail
    go_loopw [7, 8] (fun v i wr => ∃ k n : Nat, k ≤ s.size ∧ v = .int .i64 n ∧ i = .int .i64 k ∧ NInv s base k n w wr) (fun _ i _ => s.size - (intOf i).toNat)
    case atStart => exact ⟨0, 0, by omega, rfl, rfl, Below.refl _ _, by simp, by simp⟩
    case round =>
      obtain ⟨k, n, hk, rfl, rfl, I⟩ := hrel
      have HI := Lib.hid I
      clear I
      by_cases hlt : k < s.size
      · go_wp2_with fail
        refine (value43 (s[k]'hlt) _).mono ?_
        rintro e w1 ⟨rfl, b1⟩
        have hB := HI.out.below.trans (b1.mono HI.out.below.size)
        have HB := Lib.hid hB
        have hc : s.data.toList[k]? = some (s[k]'hlt) := by simp [hlt]; rfl
        obtain ⟨c, hcc⟩ : ∃ c, c = s[k]'hlt := ⟨_, rfl⟩
        rw [← hcc] at hc ⊢
        clear b1 hB hcc
        cases hd : dig c with
        | none =>
          have HS := Lib.hid (HZ.out.trans (HI.out.rest.trans (numG_stop hc (.inl hd))))
          clear hd hc
          unfold numI
          go_wp2_with fail
          go_ret
          exact ⟨by rw [HS.out]; rfl, HB.out⟩
        | some d =>
          by_cases hbd : d < base
          · have hd16 := dig_lt hd
            have hn := HI.out.lt
            have hnl : n < 65536 := Nat.lt_of_lt_of_le hn (Nat.le_trans (Nat.pow_le_pow_right (by decide) (show k ≤ 4 by omega)) (by decide))
            have hmul : n * base ≤ 65536 * 16 := Nat.mul_le_mul (by omega) hb.2
            have hnx : n * base + d < 16 ^ (k + 1) := by
              have : n * base ≤ (16 ^ k - 1) * 16 := Nat.mul_le_mul (by omega) hb.2
              rw [Nat.pow_succ]; omega
            have HN := Lib.hid (show NInv s base (k + 1) (n * base + d) w w1 from ⟨HB.out, HI.out.rest.trans (numG_next hc hd hbd), hnx⟩)
            have em : ((base : Int) * (n : Int)) = ((n * base : Nat) : Int) := by rw [Nat.mul_comm]; simp
            obtain ⟨m, hm2⟩ : ∃ m, m = n * base := ⟨_, rfl⟩
            rw [← hm2] at hmul em HN
            have HD := Lib.hid hd
            clear hd hc hn hnx hm2
            unfold numI
            go_wp2_with fail
            exact ⟨⟨k + 1, m + d, by omega, by congr 1, by congr 1, HN.out⟩, by simp [intOf]; omega⟩
          · have HS := Lib.hid (HZ.out.trans (HI.out.rest.trans (numG_stop hc (.inr ⟨d, hd, by omega⟩))))
            clear hd hc
            unfold numI
            go_wp2_with fail
            go_ret
            exact ⟨by rw [HS.out]; rfl, HB.out⟩
      · obtain rfl : k = s.size := by omega
        have e := HI.out.rest
        rw [List.drop_eq_nil_of_le (by simp)] at e
        have HS := Lib.hid (HZ.out.trans e)
        clear e
        go_wp2_with fail
        go_ret
        exact ⟨by rw [HS.out]; rfl, HI.out.below⟩
end Go.Proofs.YtepoaapadalnoaaDoor
