/- A text read as an address, in plain words. No program in sight. -/
import Derived.Test.YtepoaapadalnoaaDoorPlain
import Derived.Lib.CountLaws
namespace Go.Proofs.YtepoaapadalnoaaDoor
/-- the value of a byte that is a digit -/
def dig (c : UInt8) : Option Nat :=
  if 48 ≤ c.toNat ∧ c.toNat ≤ 57 then some (c.toNat - 48) else if 97 ≤ c.toNat ∧ c.toNat ≤ 102 then some (c.toNat - 87)
  else if 65 ≤ c.toNat ∧ c.toNat ≤ 70 then some (c.toNat - 55) else none
/-- digits, read behind a number -/
def numG (base : Nat) : Nat → List UInt8 → Option Nat
  | n, [] => some n
  | n, c :: s => match dig c with
    | none => none
    | some d => if d < base then numG base (n * base + d) s else none
/-- the number of a text of so many digits at most -/
def num (base most : Nat) (s : List UInt8) : Option Nat := if s = [] ∨ most < s.length then none else numG base 0 s
/-- a text, cut at each such byte -/
def spl (c : UInt8) : List UInt8 → List (List UInt8)
  | [] => [[]]
  | x :: s => if x = c then [] :: spl c s else match spl c s with
    | [] => [[x]]
    | p :: ps => (x :: p) :: ps
/-- one decimal -/
def decN (s : List UInt8) : Option Nat :=
  match num 10 3 s with
  | none => none
  | some n => if 255 < n ∨ (1 < s.length ∧ s.head? = some 48) then none else some n
def decs : List (List UInt8) → Option (List Nat)
  | [] => some []
  | x :: l => match decN x, decs l with
    | some n, some r => some (n :: r)
    | _, _ => none
/-- four decimals as two groups -/
def dec4 (s : List UInt8) : Option (List Nat) :=
  match decs (spl 46 s) with
  | some [a, b, c, d] => some [256 * a + b, 256 * c + d]
  | _ => none
/-- groups out of the pieces of a side -/
def sideG (last : Bool) : List (List UInt8) → Option (List Nat)
  | [] => some []
  | x :: r => match num 16 4 x with
    | some n => (sideG last r).map (n :: ·)
    | none => if last && r.isEmpty then dec4 x else none
def sideL (last : Bool) (s : List UInt8) : Option (List Nat) := if s = [] then some [] else sideG last (spl 58 s)
/-- the groups of a text -/
def getL (s : List UInt8) : Option (List Nat) :=
  let c := Lib.cut s [58, 58]
  if c.2.2 then
    match sideL false c.1, sideL true c.2.1 with
    | some l, some m => if l.length + m.length < 8 then some (l ++ List.replicate (8 - (l.length + m.length)) 0 ++ m) else none
    | _, _ => none
  else match sideL true s with
    | some l => if l.length = 8 then some l else none
    | none => none
/-- the address's bytes out of its groups -/
def adrG (l : List Nat) (i : Nat) : Nat := if i % 2 = 0 then l.getD (i / 2) 0 / 256 else l.getD (i / 2) 0 % 256

/-- the program's test of a rune -/
def digR (c : Nat) : Option Nat :=
  if 48 ≤ c ∧ c ≤ 57 then some (c - 48) else if 97 ≤ (c ||| 32) ∧ (c ||| 32) ≤ 102 then some ((c ||| 32) - 87) else none
theorem digRF : ∀ i : Fin 256, dig (UInt8.ofNat i.1) = digR i.1 ∧ (∀ d, dig (UInt8.ofNat i.1) = some d → d < 16 ∧ i.1 < 128) := by decide +kernel
theorem dig_small (c : UInt8) : dig c = digR c.toNat := by
  have h := (digRF ⟨c.toNat, c.toNat_lt⟩).1
  simpa using h
theorem dig_lt {c : UInt8} {d : Nat} (h : dig c = some d) : d < 16 := by
  have h1 := (digRF ⟨c.toNat, c.toNat_lt⟩).2 d
  simp only [UInt8.ofNat_toNat] at h1
  exact (h1 h).1
theorem dig_big {c : UInt8} (h : 128 ≤ c.toNat) : dig c = none := by
  cases e : dig c with
  | none => rfl
  | some d =>
    have h1 := (digRF ⟨c.toNat, c.toNat_lt⟩).2 d
    simp only [UInt8.ofNat_toNat] at h1
    have := (h1 e).2
    omega
theorem digR_big {c : Nat} (h : 128 ≤ c) : digR c = none := by
  have h1 : c ≤ c ||| 32 := Nat.left_le_or
  unfold digR
  rw [if_neg (by omega), if_neg (by omega)]
theorem digR_lt {c d : Nat} (h : digR c = some d) : d < 16 := by
  unfold digR at h
  split at h
  · cases h; omega
  · split at h
    · cases h; omega
    · cases h
theorem numG_lt {base : Nat} (hb : 1 ≤ base) : ∀ (s : List UInt8) (n m : Nat), numG base n s = some m → m < (n + 1) * base ^ s.length
  | [], n, m, h => by
    simp only [numG, Option.some.injEq] at h
    subst h; simp
  | c :: s, n, m, h => by
    unfold numG at h
    split at h
    · cases h
    · rename_i d _
      split at h
      · rename_i hd
        have h1 := numG_lt hb s _ m h
        have h2 : n * base + d + 1 ≤ (n + 1) * base := by rw [Nat.add_mul]; omega
        calc m < (n * base + d + 1) * base ^ s.length := h1
          _ ≤ (n + 1) * base * base ^ s.length := Nat.mul_le_mul_right _ h2
          _ = (n + 1) * base ^ (c :: s).length := by rw [List.length_cons, Nat.pow_succ', Nat.mul_assoc]
      · cases h
theorem num_lt {base most : Nat} (hb : 1 ≤ base) {s : List UInt8} {m : Nat} (h : num base most s = some m) : m < base ^ most := by
  unfold num at h
  split at h
  · cases h
  · rename_i hs
    have h1 := numG_lt hb s 0 m h
    rw [Nat.zero_add, Nat.one_mul] at h1
    exact Nat.lt_of_lt_of_le h1 (Nat.pow_le_pow_right hb (by omega))
theorem numG_digs {base : Nat} : ∀ (s : List UInt8) (n m : Nat), numG base n s = some m → ∀ c ∈ s, (dig c).isSome = true
  | [], n, m, h, c, hc => by cases hc
  | x :: s, n, m, h, c, hc => by
    unfold numG at h
    split at h
    · cases h
    · rename_i d hd
      split at h
      · rcases List.mem_cons.1 hc with rfl | hc
        · rw [hd]; rfl
        · exact numG_digs s _ m h c hc
      · cases h
theorem num_digs {base most : Nat} {s : List UInt8} {m : Nat} (h : num base most s = some m) : ∀ c ∈ s, (dig c).isSome = true := by
  unfold num at h
  split at h
  · cases h
  · exact numG_digs s 0 m h
theorem num_none {base most : Nat} {s : List UInt8} {c : UInt8} (hc : c ∈ s) (hd : dig c = none) : num base most s = none := by
  cases h : num base most s with
  | none => rfl
  | some m =>
    have := num_digs h c hc
    rw [hd] at this; cases this

theorem spl_ne (c : UInt8) : ∀ s, spl c s ≠ []
  | [] => by unfold spl; simp
  | x :: s => by
    unfold spl
    split
    · simp
    · split <;> simp
theorem spl_clean {c : UInt8} : ∀ {s : List UInt8}, c ∉ s → spl c s = [s]
  | [], _ => rfl
  | x :: s, h => by
    unfold spl
    rw [if_neg (fun e => h (by simp [e])), spl_clean (fun e => h (List.mem_cons_of_mem _ e))]
theorem spl_cut {c : UInt8} : ∀ {p s : List UInt8}, c ∉ p → spl c (p ++ c :: s) = p :: spl c s
  | [], s, _ => by
    rw [List.nil_append]
    rw [spl, if_pos rfl]
  | x :: p, s, h => by
    rw [List.cons_append, spl, if_neg (fun e => h (by simp [e])), spl_cut (fun e => h (List.mem_cons_of_mem _ e))]
theorem spl_mem {c : UInt8} : ∀ {s p : List UInt8}, p ∈ spl c s → c ∉ p ∧ ∀ x ∈ p, x ∈ s
  | [], p, h => by
    simp only [spl, List.mem_singleton] at h
    subst h; simp
  | x :: s, p, h => by
    unfold spl at h
    split at h
    · rcases List.mem_cons.1 h with rfl | h
      · simp
      · exact ⟨(spl_mem h).1, fun y hy => List.mem_cons_of_mem _ ((spl_mem h).2 y hy)⟩
    · rename_i hx
      split at h
      · rename_i e; exact absurd e (spl_ne c s)
      · rename_i q qs e
        rcases List.mem_cons.1 h with rfl | h
        · obtain ⟨h1, h2⟩ := spl_mem (p := q) (by rw [e]; exact List.mem_cons_self ..)
          refine ⟨fun h3 => ?_, fun y hy => ?_⟩
          · rcases List.mem_cons.1 h3 with h3 | h3
            · exact hx h3.symm
            · exact h1 h3
          · rcases List.mem_cons.1 hy with rfl | hy
            · exact List.mem_cons_self ..
            · exact List.mem_cons_of_mem _ (h2 y hy)
        · obtain ⟨h1, h2⟩ := spl_mem (p := p) (by rw [e]; exact List.mem_cons_of_mem _ h)
          exact ⟨h1, fun y hy => List.mem_cons_of_mem _ (h2 y hy)⟩
theorem spl_length (c : UInt8) : ∀ s : List UInt8, (spl c s).length ≤ s.length + 1
  | [] => by simp [spl]
  | x :: s => by
    have := spl_length c s
    unfold spl
    split
    · simp only [List.length_cons]; omega
    · split
      · simp
      · rename_i e; rw [e] at this; simp only [List.length_cons] at this ⊢; omega
theorem spl_piece {c : UInt8} : ∀ {s p : List UInt8}, p ∈ spl c s → p.length ≤ s.length
  | [], p, h => by
    simp only [spl, List.mem_singleton] at h
    subst h; simp
  | x :: s, p, h => by
    unfold spl at h
    split at h
    · rcases List.mem_cons.1 h with rfl | h
      · simp
      · have := spl_piece h; simp only [List.length_cons]; omega
    · split at h
      · rename_i e; exact absurd e (spl_ne c s)
      · rename_i q qs e
        rcases List.mem_cons.1 h with rfl | h
        · have := spl_piece (p := q) (by rw [e]; exact List.mem_cons_self ..)
          simp only [List.length_cons]; omega
        · have := spl_piece (p := p) (by rw [e]; exact List.mem_cons_of_mem _ h)
          simp only [List.length_cons]; omega

/-- the first such byte parts a text -/
theorem part_first (c : UInt8) : ∀ s : List UInt8, c ∈ s → ∃ p t, s = p ++ c :: t ∧ c ∉ p
  | [], h => by cases h
  | x :: s, h => by
    by_cases hx : x = c
    · subst hx; exact ⟨[], s, rfl, by simp⟩
    · obtain ⟨p, t, rfl, hp⟩ := part_first c s (by rcases List.mem_cons.1 h with h | h; exact absurd h.symm hx; exact h)
      refine ⟨x :: p, t, rfl, fun h => ?_⟩
      rcases List.mem_cons.1 h with h | h
      · exact hx h.symm
      · exact hp h
theorem index_clean {c : UInt8} {s : List UInt8} (h : c ∉ s) : Lib.index s [c] = -1 := by
  rw [Lib.index_one]
  rcases Int.lt_or_le (Lib.indexByte s c) 0 with h1 | h1
  · have : -1 ≤ Lib.indexByte s c := by rw [← Lib.index_one]; exact Lib.index_ge ..
    omega
  · obtain ⟨o, ho⟩ := Int.eq_ofNat_of_zero_le h1
    exact absurd (List.mem_of_getElem? (Lib.indexByte_some ho).1) h
theorem index_cut {c : UInt8} {p t : List UInt8} (h : c ∉ p) : Lib.index (p ++ c :: t) [c] = p.length := by
  refine Lib.index_first (by simp) (by simp [Lib.occAt]) (fun j hj => ?_)
  cases e : Lib.occAt (p ++ c :: t) [c] j with
  | false => rfl
  | true =>
    have := Lib.occAt_head rfl e
    rw [List.getElem?_append_left hj] at this
    exact absurd (List.mem_of_getElem? this) h
theorem contains_one (c : UInt8) (s : List UInt8) : decide (0 ≤ Lib.indexByte s c) = s.contains c := by
  by_cases h : c ∈ s
  · obtain ⟨p, t, rfl, hp⟩ := part_first c s h
    have := index_cut (t := t) hp
    rw [Lib.index_one] at this
    rw [this]; simp
  · have := index_clean h
    rw [Lib.index_one] at this
    rw [this]; simp [h]
theorem split_spl (c : UInt8) : ∀ (n : Nat) (s : List UInt8), s.length ≤ n → Lib.splitK [c] 0 (Lib.count s [c]) s = spl c s ∧ (spl c s).length = Lib.count s [c] + 1
  | n, s, h => by
    by_cases hc : c ∈ s
    · obtain ⟨p, t, rfl, hp⟩ := part_first c s hc
      have hi : Lib.index (p ++ c :: t) [c] = p.length := index_cut hp
      have hd : (p ++ c :: t).drop (p.length + [c].length) = t := by
        rw [List.length_singleton, List.drop_append]; simp
      have hk : Lib.count (p ++ c :: t) [c] = Lib.count t [c] + 1 := by
        rw [Lib.count_hit (by simp) hi, hd]; omega
      match n, h with
      | 0, h => simp at h
      | n + 1, h =>
        obtain ⟨h1, h2⟩ := split_spl c n t (by simp only [List.length_append, List.length_cons] at h; omega)
        refine ⟨?_, ?_⟩
        · rw [hk]
          unfold Lib.splitK
          rw [hi, if_neg (by simp), spl_cut hp, Int.toNat_natCast, hd, h1]
          simp
        · rw [spl_cut hp, hk, List.length_cons, h2]
    · have hi := index_clean hc
      rw [Lib.count_miss hi, spl_clean hc]
      exact ⟨rfl, rfl⟩
end Go.Proofs.YtepoaapadalnoaaDoor
