/- Several texts in one: Zeros, Concat, Opts. No condition beyond those that each part names. -/
import Derived.Test.YtjldcblklbikaaaRows8
/- append of a make: noughts behind a row of one's own. -/
namespace Go.Proofs.Ytjldcblklbikaaa
open Go.RowKit
set_option linter.unusedVariables false
set_option linter.unusedSimpArgs false
theorem underlying3' : Try.prog.underlying 3 = some (.int .i64) := Try.underlying3
theorem zero5 (m : Nat) : (Builtin.zeroCells (Value.int .u8 0).cells m) = (List.replicate m (Value.int .u8 0)).toArray := by
  apply Array.ext
  · simp [Builtin.zeroCells, Value.cells]
  · intro i h1 h2
    simp [Builtin.zeroCells, Value.cells, Nat.mod_one]
theorem under3 : Try.prog.underlying 3 = some (.int .i64) := Try.underlying3
theorem run_append_zeros (w : World) (B n m : Nat) (v : Value) (xs : List Value) (ty : TypeId) (hown : w.ownsRow B 5 1 v n xs) (hm : n + m ≤ 1000000000) (hB : B ≤ w.heap.size) :
    ∃ v' w', (Builtin.append_ #[41, 3] ty #[v, .int .i64 (m : Int)]).run Try.prog w = .ok v' w' ∧ w'.ownsRow B 5 1 v' (n + m) (xs ++ List.replicate m (.int .u8 0)) ∧ w.grownBy w' v.ownBlock := by
  obtain ⟨i5, hi5, hz5, hs5, hb5⟩ := info_parts info5
  have hw : IntKind.i64.wrap (m : Int) = (m : Int) := i64_small (by omega)
  have hw0 : IntKind.i64.wrap 0 = 0 := by decide
  have hneg : ¬ ((m : Int) < 0) := by omega
  have hbig : ¬ ((281474976710656 : Int) < (m : Int)) := by omega
  have h63 : n + m ≤ maxLen := by unfold maxLen; omega
  have hlen : (xs ++ List.replicate m (Value.int .u8 0)).length = (n + m) * 1 := by rw [List.length_append, hown.1, List.length_replicate]; omega
  have grown : ∀ (old : Nat), old < n + m → ∀ (row : Option Nat),
      (w.drew.alloc (.cells (xs.toArray ++ (List.replicate m (Value.int .u8 0)).toArray ++ Builtin.zeroCells (Value.int .u8 0).cells (grownCap w (n + m) old 5 - (n + m))) 5)).ownsRow B 5 1
        (.slice (some ⟨w.heap.size, 0, none⟩) (n + m) (grownCap w (n + m) old 5)) (n + m) (xs ++ List.replicate m (Value.int .u8 0)) ∧
      w.grownBy (w.drew.alloc (.cells (xs.toArray ++ (List.replicate m (Value.int .u8 0)).toArray ++ Builtin.zeroCells (Value.int .u8 0).cells (grownCap w (n + m) old 5 - (n + m))) 5)) row := by
    intro old ho row
    have hge := grownCap_ge w (n + m) old 5
    have hcm : grownCap w (n + m) old 5 ≤ maxLen := grownCap_le_maxLen w (n + m) old 5 h63
    refine ⟨⟨hlen, .inr ⟨w.heap.size, _, _, rfl, hB, heap_alloc_new w.drew _, hge, hcm, ?_, ?_⟩⟩, ⟨rfl, rfl, rfl, by simp, fun k hk _ => heap_alloc_old w.drew _ hk⟩⟩
    · simp only [Array.size_append, List.size_toArray, size_zeroCells, hown.1, List.length_replicate, Value.cells]
      simp; omega
    · simp only [Array.toList_append, List.append_assoc]
      rw [← List.append_assoc, ← hlen]
      exact List.take_left
  rcases hown.2 with ⟨rfl, rfl⟩ | ⟨g, cap, cur, rfl, hbg, hg, hnc, hcm, hcs, htake⟩
  · have hx : xs = [] := List.eq_nil_of_length_eq_zero (by simpa using hown.1)
    subst hx
    by_cases hm0 : m = 0
    · subst hm0
      refine ⟨.slice none 0 0, w, ?_, World.ownsRow_nil w B 5 1, ⟨rfl, rfl, rfl, Nat.le_refl _, fun _ _ _ => rfl⟩⟩
      simp [Builtin.append_, run_underlying Try.underlying41, run_underlying under3, sizeOf, typeInfo, zeroValue, hi5, hz5, hs5, hb5, Builtin.lenOf, Builtin.firstCells, asInt, asIntOf, hw, hw0]
    · have hgr := grown 0 (by omega) (Value.ownBlock (.slice none 0 0))
      simp only [Nat.zero_add, List.nil_append, Array.empty_append] at hgr ⊢
      refine ⟨_, _, ?_, hgr.1, hgr.2⟩
      have h48' : ¬ (281474976710656 < Builtin.nextslicecap m 0) := by rw [nextslicecap_zero (by omega)]; omega
      have h63' : ¬ ((9223372036854775807 : Int) < (m : Int)) := by omega
      simp [Builtin.append_, run_underlying Try.underlying41, run_underlying under3, sizeOf, typeInfo, zeroValue, hi5, hz5, hs5, hb5, Builtin.lenOf, asInt, asIntOf, hw, hneg, hbig, hm0, h48', h63', Question.forced, run_firstCells_none, newRow, grownCap, zero5]
  · by_cases hroom : n + m ≤ cap
    · by_cases hm0 : m = 0
      · subst hm0
        refine ⟨.slice (some ⟨g, 0, none⟩) n cap, w, ?_, ?_, ⟨rfl, rfl, rfl, Nat.le_refl _, fun _ _ _ => rfl⟩⟩
        · simp [Builtin.append_, run_underlying Try.underlying41, run_underlying under3, sizeOf, typeInfo, zeroValue, hi5, hz5, hs5, hb5, Builtin.lenOf, asInt, asIntOf, hw, hw0, hnc, storeCells]
        · simpa using hown
      · have hfit : n * 1 + 0 + (List.replicate m (Value.int .u8 0)).length ≤ cur.size := by rw [List.length_replicate, hcs]; omega
        have hst := run_storeCells_at Try.prog g (n * 1) 5 (List.replicate m (Value.int .u8 0)) 0 cur w hg hfit (fun u hu => by rw [List.eq_of_mem_replicate hu]; rfl)
        simp only [Nat.add_zero, Nat.mul_one, List.length_replicate] at hst
        refine ⟨.slice (some ⟨g, 0, none⟩) (n + m) cap, w.setRow g (cur.toList.take n ++ List.replicate m (Value.int .u8 0) ++ cur.toList.drop (n + m)).toArray, ?_, ⟨hlen, .inr ⟨g, cap, _, rfl, hbg, setRow_heap w g cur _ 5 _ hg, hroom, hcm, ?_, ?_⟩⟩, ⟨rfl, rfl, rfl, by simp, fun k _ hk => setRow_other w g k _ (fun e => hk (by simp [Value.ownBlock, e]))⟩⟩
        · simp [Builtin.append_, run_underlying Try.underlying41, run_underlying under3, sizeOf, typeInfo, zeroValue, hi5, hz5, hs5, hb5, Builtin.lenOf, asInt, asIntOf, hw, hneg, hbig, hm0, hroom, Addr.add_lit, zero5, hst]
        · simp only [List.size_toArray, List.length_append, List.length_take, List.length_drop, Array.length_toList, List.length_replicate]
          omega
        · rw [Nat.mul_one] at htake
          rw [htake, ← hlen]
          exact List.take_left
    · have holds : ∀ j u, xs[j]? = some u → w.cell? ((⟨g, 0, none⟩ : Addr).add j) = some u := hown.cells (g := g) rfl
      have hgr := grown cap (by omega) (Value.ownBlock (.slice (some ⟨g, 0, none⟩) n cap))
      refine ⟨_, _, ?_, hgr.1, hgr.2⟩
      have h48' : ¬ (281474976710656 < Builtin.nextslicecap (n + m) cap) := by
        have := growslice_fits (need := n + m) (old := cap) (bytes := 1) (by omega) (by omega)
        omega
      have h63' : ¬ ((9223372036854775807 : Int) < (n : Int) + (m : Int)) := by omega
      have hfo := run_firstCells_some (P := Try.prog) w.drew 1 n ⟨g, 0, none⟩ n cap xs hown.1 (by simpa using holds)
      have hm0 : m ≠ 0 := by omega
      simp [Builtin.append_, run_underlying Try.underlying41, run_underlying under3, sizeOf, typeInfo, zeroValue, hi5, hz5, hs5, hb5, Builtin.lenOf, asInt, asIntOf, hw, hneg, hbig, hm0, hroom, h48', h63', Question.forced, hfo, newRow, grownCap, zero5]
theorem app0 {ops : Array Oper} {rest : List Oper} {o : Oper} {a : Act} {Q : Exit → Act → World → Prop} {w : World} (hgd : o.guard = none) (s x : Operand) (ho : o.op = .call { callee := .builtin .append, args := #[s, x], argTypes := #[41, 3] })
    (B : Nat) (v : Value) (l : List Nat) (hs : a.eval s = v) (hown : w.ownsRow B 5 1 v l.length (row8 l)) (m : Nat) (hx : a.eval x = .int .i64 (m : Int)) (hm : l.length + m ≤ 1000000000) (hB : B ≤ w.heap.size)
    (h : ∀ v' w', w'.ownsRow B 5 1 v' (l ++ List.replicate m 0).length (row8 (l ++ List.replicate m 0)) → w.grownBy w' v.ownBlock → wpList Try.prog ops Q rest (a.put o.dst v') w') :
    wpList Try.prog ops Q (o :: rest) a w := by
  obtain ⟨v', w', hr, h1, h2⟩ := run_append_zeros w B l.length m v (row8 l) o.type hown hm hB
  have e : row8 l ++ List.replicate m (Value.int .u8 0) = row8 (l ++ List.replicate m 0) := by simp [row8]
  refine wpList_plain hgd fun K hK => ?_
  unfold Oper.wp execOp
  simp only [ho, resolve, invoke, builtin, Sem.run_bind, Sem.run_pure, Result.andThen_ok, List.map_toArray, List.map_cons, List.map_nil, hs, hx, hr]
  exact hK _ _ (h v' w' (by rw [List.length_append, List.length_replicate, ← e]; exact h1) h2)
end Go.Proofs.Ytjldcblklbikaaa

/- slices.Grow of nothing, slices.Concat of slices of bytes. No condition but that the bytes fit a machine. -/
namespace Go.Proofs.Ytjldcblklbikaaa
open Go.RowKit
set_option linter.unusedVariables false
set_option linter.unusedSimpArgs false
/-- a slice of bytes that is put behind others -/
structure Piece where
  adr : Option Addr
  cap : Nat
  bytes : List Nat
def total (xs : List Piece) : Nat := (xs.map fun x => x.bytes.length).sum
def allB (xs : List Piece) : List Nat := xs.flatMap fun x => x.bytes
theorem total_succ {xs : List Piece} {k : Nat} {x : Piece} (h : xs[k]? = some x) : total (xs.take (k + 1)) = total (xs.take k) + x.bytes.length := by
  unfold total
  rw [List.take_add_one, h]
  simp
theorem total_le (xs : List Piece) (k : Nat) : total (xs.take k) ≤ total xs := by
  have h : total xs = total (xs.take k) + total (xs.drop k) := by
    conv => lhs; rw [← List.take_append_drop k xs]
    unfold total
    rw [List.map_append, List.sum_append]
  omega
theorem allB_succ {xs : List Piece} {k : Nat} {x : Piece} (h : xs[k]? = some x) : allB (xs.take (k + 1)) = allB (xs.take k) ++ x.bytes := by
  unfold allB
  rw [List.take_add_one, h]
  simp
theorem allB_length (xs : List Piece) : (allB xs).length = total xs := by unfold allB total; simp [List.length_flatMap]
end Go.Proofs.Ytjldcblklbikaaa

/- Options that come: how they are read; are they more than is gone through. No condition but the form's reach. -/
namespace Go.Proofs.Ytjldcblklbikaaa
open Go.RowKit
set_option linter.unusedVariables false
set_option linter.unusedSimpArgs false
/-- an option in memory: its kind, where its data stand -/
structure Opt where
  kind : Nat
  adr : Option Addr
  cap : Nat
  data : List Nat
/-- a slice at A reads as these options, below block B -/
structure OptsAt (w : World) (B : Nat) (A : Option Addr) (L : List Opt) : Prop where
  at_ : L ≠ [] → ∃ b o, A = some ⟨b, o, none⟩ ∧ b < B ∧ ∀ i x, L[i]? = some x → w.cell? ⟨b, o + i * 2, none⟩ = some (.int .u8 (x.kind : Int)) ∧ w.cell? ⟨b, o + i * 2 + 1, none⟩ = some (.slice x.adr x.data.length x.cap)
  each : ∀ x ∈ L, Bs w B x.adr x.cap x.data ∧ x.kind < 256 ∧ (∀ y ∈ x.data, y < 256) ∧ x.cap ≤ 140737488351232
  many : L.length ≤ 140737488351232
theorem OptsAt.below {w w' : World} {B : Nat} {A : Option Addr} {L : List Opt} (h : OptsAt w B A L) (hb : Below B w w') : OptsAt w' B A L := by
  refine ⟨fun hl => ?_, fun x hx => ?_, h.many⟩
  · obtain ⟨b, o, e, hlt, hc⟩ := h.at_ hl
    refine ⟨b, o, e, hlt, fun i x hx => ?_⟩
    obtain ⟨h1, h2⟩ := hc i x hx
    exact ⟨(hb.cell (p := ⟨b, o + i * 2, none⟩) hlt).trans h1, (hb.cell (p := ⟨b, o + i * 2 + 1, none⟩) hlt).trans h2⟩
  · obtain ⟨h1, h2⟩ := h.each x hx
    exact ⟨h1.below hb, h2⟩
def totD (L : List Opt) : Nat := (L.map fun x => x.data.length).sum
theorem totD_succ {L : List Opt} {k : Nat} {x : Opt} (h : L[k]? = some x) : totD (L.take (k + 1)) = totD (L.take k) + x.data.length := by
  unfold totD
  rw [List.take_add_one, h]
  simp
/-- more than is gone through, or not -/
def GreatPost (L : List Opt) (w : World) (e : Ending) (w' : World) : Prop := ∃ b, e = .returned (.bool b) ∧ w = w' ∧ (b = false → L.length + totD L ≤ 5000)
end Go.Proofs.Ytjldcblklbikaaa
