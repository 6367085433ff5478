/- append of a text's bytes behind a row of one's own. No condition but that they are few. -/
import Derived.Test.YtfolamkjlgpgmaaGreatDoorMade
namespace Go.Proofs.YtfolamkjlgpgmaaGreatDoor
open Go.RowKit
set_option linter.unusedVariables false
set_option linter.unusedSimpArgs false
/-- a text's bytes -/
def bytesS (s : ByteArray) : List Nat := s.data.toList.map (·.toNat)
theorem bytesS_length (s : ByteArray) : (bytesS s).length = s.size := by simp [bytesS]
theorem under9' : Tryz.prog.underlying 9 = some .string := Tryz.underlying9
theorem rowS_eq (s : ByteArray) : ((s.extract 0 s.size).data.map fun b => Value.int .u8 b.toNat) = (row8 (bytesS s)).toArray := by
  apply Array.ext'
  simp [row8, bytesS]
theorem run_append_text (w : World) (B n : Nat) (v : Value) (xs : List Value) (s : ByteArray) (ty : TypeId) (hown : w.ownsRow B 5 1 v n xs) (hm : n + s.size ≤ 1000000000) (hB : B ≤ w.heap.size) :
    ∃ v' w', (Builtin.append_ #[22, 9] ty #[v, .string s]).run Tryz.prog w = .ok v' w' ∧ w'.ownsRow B 5 1 v' (n + s.size) (xs ++ row8 (bytesS s)) ∧ w.grownBy w' v.ownBlock := by
  obtain ⟨i5, hi5, hz5, hs5, hb5⟩ := info_parts info5
  obtain ⟨m, hmm⟩ : ∃ m, s.size = m := ⟨_, rfl⟩
  have hrow := rowS_eq s
  have hrl : (row8 (bytesS s)).length = m := by rw [row8_length, bytesS_length, hmm]
  obtain ⟨R, hR⟩ : ∃ R, row8 (bytesS s) = R := ⟨_, rfl⟩
  have hone : ∀ u ∈ R, u.oneCell' = true := by rw [← hR]; exact row8_one _
  rw [hmm] at hm ⊢
  rw [hR] at hrow hrl ⊢
  rw [hmm] at hrow
  have hfs : ∀ w, (Builtin.firstCells 1 m (.string s)).run Tryz.prog w = .ok R.toArray w := fun w => by rw [← hrow]; rfl
  have h63 : n + m ≤ maxLen := by unfold maxLen; omega
  have hlen : (xs ++ R).length = (n + m) * 1 := by rw [List.length_append, hown.1, hrl]; omega
  have grown : ∀ (old : Nat), old < n + m → ∀ (row : Option Nat),
      (w.drew.alloc (.cells (xs.toArray ++ R.toArray ++ Builtin.zeroCells (Value.int .u8 0).cells (grownCap w (n + m) old 5 - (n + m))) 5)).ownsRow B 5 1
        (.slice (some ⟨w.heap.size, 0, none⟩) (n + m) (grownCap w (n + m) old 5)) (n + m) (xs ++ R) ∧
      w.grownBy (w.drew.alloc (.cells (xs.toArray ++ R.toArray ++ Builtin.zeroCells (Value.int .u8 0).cells (grownCap w (n + m) old 5 - (n + m))) 5)) row := by
    intro old ho row
    have hge := grownCap_ge w (n + m) old 5
    have hcm : grownCap w (n + m) old 5 ≤ maxLen := grownCap_le_maxLen w (n + m) old 5 h63
    refine ⟨⟨hlen, .inr ⟨w.heap.size, _, _, rfl, hB, heap_alloc_new w.drew _, hge, hcm, ?_, ?_⟩⟩, ⟨rfl, rfl, rfl, by simp, fun k hk _ => heap_alloc_old w.drew _ hk⟩⟩
    · simp only [Array.size_append, List.size_toArray, size_zeroCells, hown.1, hrl, Value.cells]
      simp; omega
    · simp only [Array.toList_append, List.append_assoc]
      rw [← List.append_assoc, ← hlen]
      exact List.take_left
  rcases hown.2 with ⟨rfl, rfl⟩ | ⟨g, cap, cur, rfl, hbg, hg, hnc, hcm, hcs, htake⟩
  · have hx : xs = [] := List.eq_nil_of_length_eq_zero (by simpa using hown.1)
    subst hx
    by_cases hm0 : m = 0
    · subst hm0
      obtain rfl : R = [] := List.eq_nil_of_length_eq_zero hrl
      refine ⟨.slice none 0 0, w, ?_, World.ownsRow_nil w B 5 1, ⟨rfl, rfl, rfl, Nat.le_refl _, fun _ _ _ => rfl⟩⟩
      simp [Builtin.append_, run_underlying Tryz.underlying22, run_underlying under9', sizeOf, typeInfo, zeroValue, hi5, hz5, hs5, hb5, Builtin.lenOf, hfs, hmm]
    · have hgr := grown 0 (by omega) (Value.ownBlock (.slice none 0 0))
      simp only [Nat.zero_add, List.nil_append, Array.empty_append] at hgr ⊢
      refine ⟨_, _, ?_, hgr.1, hgr.2⟩
      have h48' : ¬ (281474976710656 < Builtin.nextslicecap m 0) := by rw [nextslicecap_zero (by omega)]; omega
      simp [Builtin.append_, run_underlying Tryz.underlying22, run_underlying under9', sizeOf, typeInfo, zeroValue, hi5, hz5, hs5, hb5, Builtin.lenOf, hfs, hmm, hm0, h48', Question.forced, run_firstCells_none, newRow, grownCap]
  · by_cases hroom : n + m ≤ cap
    · have hfit : n * 1 + 0 + R.length ≤ cur.size := by rw [hrl, hcs]; omega
      have hst := run_storeCells_at Tryz.prog g (n * 1) 5 R 0 cur w hg hfit hone
      simp only [Nat.add_zero, Nat.mul_one, hrl] at hst
      refine ⟨.slice (some ⟨g, 0, none⟩) (n + m) cap, w.setRow g (cur.toList.take n ++ R ++ cur.toList.drop (n + m)).toArray, ?_, ⟨hlen, .inr ⟨g, cap, _, rfl, hbg, setRow_heap w g cur _ 5 _ hg, hroom, hcm, ?_, ?_⟩⟩, ⟨rfl, rfl, rfl, by simp, fun k _ hk => setRow_other w g k _ (fun e => hk (by simp [Value.ownBlock, e]))⟩⟩
      · simp [Builtin.append_, run_underlying Tryz.underlying22, run_underlying under9', sizeOf, typeInfo, zeroValue, hi5, hz5, hs5, hb5, Builtin.lenOf, hfs, hmm, hroom, Addr.add_lit, hst]
      · simp only [List.size_toArray, List.length_append, List.length_take, List.length_drop, Array.length_toList, hrl]
        omega
      · rw [Nat.mul_one] at htake
        rw [htake, ← hlen]
        exact List.take_left
    · have holds : ∀ j u, xs[j]? = some u → w.cell? ((⟨g, 0, none⟩ : Addr).add j) = some u := hown.cells (g := g) rfl
      have hgr := grown cap (by omega) (Value.ownBlock (.slice (some ⟨g, 0, none⟩) n cap))
      refine ⟨_, _, ?_, hgr.1, hgr.2⟩
      have h48' : ¬ (281474976710656 < Builtin.nextslicecap (n + m) cap) := by
        have := growslice_fits (need := n + m) (old := cap) (bytes := 1) (by omega) (by omega)
        omega
      have hfo := run_firstCells_some (P := Tryz.prog) w.drew 1 n ⟨g, 0, none⟩ n cap xs hown.1 (by simpa using holds)
      simp [Builtin.append_, run_underlying Tryz.underlying22, run_underlying under9', sizeOf, typeInfo, zeroValue, hi5, hz5, hs5, hb5, Builtin.lenOf, hfs, hmm, hroom, h48', Question.forced, hfo, newRow, grownCap]
      have e : xs.toArray ++ R.toArray = (xs ++ R).toArray := by simp
      rw [← Array.append_assoc, e]
/-- blocks of other things stay -/
def Keep5 (w w' : World) : Prop := ∀ (k : Nat) (cs : Array Value) (T : TypeId) (z : Nat × Nat), w.heap[k]? = some (.cells cs T z) → T ≠ 5 → w'.heap[k]? = some (.cells cs T z)
theorem Keep5.refl (w : World) : Keep5 w w := fun _ _ _ _ h _ => h
theorem Keep5.trans {w w1 w2 : World} (h : Keep5 w w1) (k : Keep5 w1 w2) : Keep5 w w2 := fun q cs T z h1 h2 => k q cs T z (h q cs T z h1 h2) h2
theorem Keep5.below {w w' : World} (h : Below w.heap.size w w') : Keep5 w w' := fun k cs T z h1 _ => (h.block k (lt_of_blk h1)).trans h1
theorem Keep5.grown {w w' : World} {B n : Nat} {v : Value} {xs : List Value} (ho : w.ownsRow B 5 1 v n xs) (hg : w.grownBy w' v.ownBlock) : Keep5 w w' := fun k cs T z h1 h2 => by
  refine (hg.block k (lt_of_blk h1) (fun e => ?_)).trans h1
  rcases own_blk2 ho h1 (fun e => h2 e.symm) with h3 | h3
  · rw [h3] at e; cases e
  · exact h3 e.symm
theorem app8k {ops : Array Oper} {rest : List Oper} {o : Oper} {a : Act} {Q : Exit → Act → World → Prop} {w : World} (hgd : o.guard = none) (s x : Operand) (ho : o.op = .call { callee := .builtin .append, args := #[s, x], argTypes := #[22, 22] })
    (base : Nat) (v : Value) (l : List Nat) (hs : a.eval s = v) (hv : OwnC w base v l) (ad : Addr) (m c : Nat) (d : List Nat) (hx : a.eval x = .slice (some ad) m c) (hd : d.length = m) (hm : 0 < m) (hc : ∀ j u, (row8 d)[j]? = some u → w.cell? (ad.add j) = some u)
    (hfew : l.length + m ≤ 1000000000) (hbase : base ≤ w.heap.size)
    (h : ∀ v' w', w'.ownsRow base 5 1 v' (l.length + m) (row8 (l ++ d)) → Below base w w' → Keep5 w w' → wpList Tryz.prog ops Q rest (a.put o.dst v') w') : wpList Tryz.prog ops Q (o :: rest) a w := by
  obtain ⟨i5, hi, hz0, hz1, hz2⟩ := info_parts info5
  obtain ⟨A, cc, k, rfl, h1, h2, h3, h4⟩ := hv
  by_cases hck : cc = k
  · subst hck
    refine wpList_append_own _ hgd s x 22 ho base 5 i5 (.int .u8 0) 1 1 Tryz.underlying22 hi hz0 hz1 hz2 rfl (by decide) _ l.length _ hs h4 ad m c (row8 d) hx (by rw [row8_length]; omega) hc (row8_one _) (by unfold maxLen; omega) (by omega) hbase ?_
    intro v' w' g1 g2 _
    rw [← row8_append] at g1
    exact h v' w' g1 (Below.grown' (Below.refl _ _) g2 hbase (fun k hk => (h4.lt k hk).1)) (Keep5.grown h4 g2)
  · have hcl : cc = l.length := by rcases h1 with h1 | h1 <;> omega
    subst hcl
    refine wpList_append_grows _ hgd s x 22 ho 5 i5 (.int .u8 0) 1 1 Tryz.underlying22 hi hz0 hz1 hz2 rfl (by decide) A l.length l.length (row8 l) hs (fun e => ?_) (by rw [row8_length]; omega) (fun b e => ?_) ad m c (row8 d) hx (by rw [row8_length]; omega) hc (row8_one _) (by omega) (by unfold maxLen; omega) (by omega) ?_
    · rcases h4.2 with ⟨_, h0⟩ | ⟨g, cap, cur, e2, _⟩
      · exact ⟨h0, h0⟩
      · rw [e] at e2; cases e2
    · rcases h4.2 with ⟨e2, h0⟩ | ⟨g, cap, cur, e2, _⟩
      · rw [e] at e2; cases e2
      · rw [e] at e2; cases e2
        subst e
        exact h4.cells (g := g) rfl
    · intro v' w' g1 g2
      rw [← row8_append] at g1
      exact h v' w' (own_mono g1 hbase) (Below.grown' (Below.refl _ _) g2 hbase (fun k hk => by cases hk)) (fun k cs T z h5 _ => (g2.block k (lt_of_blk h5) (fun e => by cases e)).trans h5)
theorem appSw {o : Oper} {a : Act} {K : Act → World → Prop} {Q : Exit → Act → World → Prop} {w : World} (s x : Operand) (ho : o.op = .call { callee := .builtin .append, args := #[s, x], argTypes := #[22, 9] })
    (B : Nat) (v : Value) (l : List Nat) (n : Nat) (hs : a.eval s = v) (hown : w.ownsRow B 5 1 v n (row8 l)) (t : ByteArray) (hx : a.eval x = .string t) (hm : n + t.size ≤ 1000000000) (hB : B ≤ w.heap.size)
    (h : ∀ v' w', w'.ownsRow B 5 1 v' (n + t.size) (row8 (l ++ bytesS t)) → w.grownBy w' v.ownBlock → K (a.put o.dst v') w') : o.wp Tryz.prog a w K Q := by
  obtain ⟨v', w', hr, h1, h2⟩ := run_append_text w B n v (row8 l) t o.type hown hm hB
  rw [← row8_append] at h1
  unfold Oper.wp execOp
  simp only [ho, resolve, invoke, builtin, Sem.run_bind, Sem.run_pure, Result.andThen_ok, List.map_toArray, List.map_cons, List.map_nil, hs, hx, hr]
  exact h v' w' h1 h2
theorem appS {ops : Array Oper} {rest : List Oper} {o : Oper} {a : Act} {Q : Exit → Act → World → Prop} {w : World} (hgd : o.guard = none) (s x : Operand) (ho : o.op = .call { callee := .builtin .append, args := #[s, x], argTypes := #[22, 9] })
    (B : Nat) (v : Value) (l : List Nat) (n : Nat) (hs : a.eval s = v) (hown : w.ownsRow B 5 1 v n (row8 l)) (t : ByteArray) (hx : a.eval x = .string t) (hm : n + t.size ≤ 1000000000) (hB : B ≤ w.heap.size)
    (h : ∀ v' w', w'.ownsRow B 5 1 v' (n + t.size) (row8 (l ++ bytesS t)) → w.grownBy w' v.ownBlock → wpList Tryz.prog ops Q rest (a.put o.dst v') w') :
    wpList Tryz.prog ops Q (o :: rest) a w := by
  obtain ⟨v', w', hr, h1, h2⟩ := run_append_text w B n v (row8 l) t o.type hown hm hB
  rw [← row8_append] at h1
  refine wpList_plain hgd fun K hK => ?_
  unfold Oper.wp execOp
  simp only [ho, resolve, invoke, builtin, Sem.run_bind, Sem.run_pure, Result.andThen_ok, List.map_toArray, List.map_cons, List.map_nil, hs, hx, hr]
  exact hK _ _ (h v' w' h1 h2)
end Go.Proofs.YtfolamkjlgpgmaaGreatDoor
