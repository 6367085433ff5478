/- Has, by bits and by bytes; what Tick leaves; the least time. Plain. -/
import Derived.Test.YtkhbchgocilclaaPlayQ
namespace Go.Proofs.Ytkhbchgocilclaa
open Go.RowKit
set_option linter.unusedVariables false
theorem quot_step {x o : Nat} (ho : o < 8) : x / 2 ^ (8 - (o + 1)) = 2 * (x / 2 ^ (8 - o)) + x / 2 ^ (7 - o) % 2 := by
  have e : 2 ^ (8 - o) = 2 ^ (7 - o) * 2 := by rw [← Nat.pow_succ]; congr 1; omega
  rw [e, ← Nat.div_div_eq_div_mul, show 8 - (o + 1) = 7 - o from by omega]
  omega
theorem quot_bits {x y : Nat} (hx : x < 256) (hy : y < 256) : ∀ o, o ≤ 8 → (x / 2 ^ (8 - o) = y / 2 ^ (8 - o) ↔ ∀ j, j < o → x / 2 ^ (7 - j) % 2 = y / 2 ^ (7 - j) % 2)
  | 0, _ => by
    constructor
    · intro _ j hj; omega
    · intro _; rw [Nat.div_eq_of_lt (by simpa using hx), Nat.div_eq_of_lt (by simpa using hy)]
  | o + 1, h => by
    have ih := quot_bits hx hy o (by omega)
    rw [quot_step (by omega), quot_step (by omega)]
    constructor
    · intro e j hj
      have e1 : x / 2 ^ (8 - o) = y / 2 ^ (8 - o) := by omega
      by_cases q : j = o
      · subst q; omega
      · exact ih.1 e1 j (by omega)
    · intro hb
      have e1 := ih.2 fun j hj => hb j (by omega)
      have e2 := hb o (by omega)
      omega
theorem agree_bits {a p : Nat → Nat} {n : Nat} (ha : ∀ i, i < 16 → a i < 256) (hp : ∀ i, i < 16 → p i < 256) (hn : n ≤ 128) : agree a p n ↔ ∀ i, i < n → bitA a i = bitA p i := by
  constructor
  · intro h i hi
    have h1 := h (i / 8) (by omega)
    rw [top_eq_iff, quot_bits (ha _ (by omega)) (hp _ (by omega)) _ (own_le n _)] at h1
    exact h1 (i % 8) (by unfold own; omega)
  · intro h b hb
    rw [top_eq_iff, quot_bits (ha _ hb) (hp _ hb) _ (own_le n _)]
    intro j hj
    have := h (8 * b + j) (by unfold own at hj; omega)
    unfold bitA at this
    rw [show (8 * b + j) / 8 = b from by unfold own at hj; omega, show (8 * b + j) % 8 = j from by unfold own at hj; omega] at this
    exact this
theorem within_same {a p : Nat → Nat} {n : Nat} (ha : ∀ i, i < 16 → a i < 256) (hp : ∀ i, i < 16 → p i < 256) (hn : n ≤ 128) : withinR a p n = withinB a p n := by
  unfold withinR withinB
  rw [Bool.eq_iff_iff, decide_eq_true_eq, decide_eq_true_eq, Nat.min_eq_left hn, common_agree ha hp hn, agree_bits ha hp hn]
theorem rel_has {D : PD} {L : List Ent} (h : Rel D L) (hD : LOk D) {a : Nat → Nat} (ha : ∀ i, i < 16 → a i < 256) : hasB a D = hasR L a := by
  unfold hasB hasR
  have key : hasMap a D = L.any fun e => withinR a (adrOf e.1) (bitsOf e.1) := by
    rw [Bool.eq_iff_iff, hasMap_iff hD, List.any_eq_true]
    have one : ∀ e ∈ L, litWithin a (.string e.1.1) = withinR a (adrOf e.1) (bitsOf e.1) := fun e he => by
      obtain ⟨p, n, hp, hn, e1, hm⟩ := hD.keys _ (h.old e he).1
      obtain ⟨h1, h2⟩ := key_parts hp (by omega) e1
      rw [within_same ha (adrOf_lt e.1) (by rw [h2]; exact hn), e1, litWithin_key hp (by omega), h2]
      exact (withinB_congr fun i hi => (h1 i hi).symm)
    constructor
    · rintro ⟨kl, hk, hw⟩
      obtain ⟨e, he, e1⟩ := h.all kl hk
      exact ⟨e, he, by rw [← one e he, ← e1]; exact hw⟩
    · rintro ⟨e, he, hw⟩
      exact ⟨_, (h.old e he).1, by rw [one e he]; exact hw⟩
  rw [key, Bool.or_comm]
theorem LOk.tick {D : PD} (h : LOk D) (hC : Maps.Canon D) (now : Nat) : LOk (tickD now D) := by
  obtain ⟨es, rfl, hr, hk⟩ := hC
  have hC : Maps.Canon (.map es : PD) := ⟨es, rfl, hr, hk⟩
  refine ⟨fun kl hh => h.keys kl ?_, ?_, ?_⟩
  · rw [tick_has hC, Bool.and_eq_true] at hh; exact hh.1
  · have := List.length_filter_le (fun p : Lit × DataW Unit => decide (now < timeOf p.2)) es
    have h2 := h.size
    exact Nat.le_trans this h2
  · exact ⟨_, rfl, (Maps.apart_of_rising hr).filter _⟩
theorem Rel.keys_is {D : PD} {L : List Ent} (h : Rel D L) {ks : List PKey} (hu : ∀ (i j : Nat) (x y : PKey), i < j → ks[i]? = some x → ks[j]? = some y → numK x < numK y) (hall : ∀ kl, Maps.has D kl = true → ∃ k ∈ ks, kl = .string k.1) (hold : ∀ k ∈ ks, Maps.has D (.string k.1) = true) : ks = L.map (·.1) := by
  have hp : ks.Pairwise fun a b => numK a < numK b := List.pairwise_iff_getElem.2 fun i j hi hj hij => hu i j _ _ hij (List.getElem?_eq_getElem hi) (List.getElem?_eq_getElem hj)
  have hp2 : (L.map (·.1)).Pairwise fun a b => numK a < numK b := List.pairwise_map.2 h.up
  have hm : ∀ k, k ∈ ks ↔ k ∈ L.map (·.1) := fun k => by
    constructor
    · intro hk
      obtain ⟨e, he, e1⟩ := h.all _ (hold k hk)
      exact List.mem_map.2 ⟨e, he, (numK_inj (lit_num.1 e1)).symm⟩
    · intro hk
      obtain ⟨e, he, rfl⟩ := List.mem_map.1 hk
      obtain ⟨k, hk, e1⟩ := hall _ (h.old e he).1
      rw [numK_inj (lit_num.1 e1)]; exact hk
  have n1 : ks.Nodup := hp.imp fun {a b} q e => by rw [e] at q; omega
  have n2 : (L.map (·.1)).Nodup := hp2.imp fun {a b} q e => by rw [e] at q; omega
  exact ((List.perm_ext_iff_of_nodup n1 n2).2 hm).eq_of_pairwise (fun a b _ _ q1 q2 => by omega) hp hp2
end Go.Proofs.Ytkhbchgocilclaa
