/- Several texts in one: Cats, Put, Twins8. No condition beyond those that each part names. -/
import Derived.Test.YtjldcblklbikaaaGet
import Derived.WalkSmall
/- Several texts in one: Zeros, Concat, Opts. No condition beyond those that each part names. -/
/- append of a make: noughts behind a row of one's own. -/
namespace Go.Proofs.Ytjldcblklbikaaa
open Go.RowKit
set_option linter.unusedVariables false
set_option linter.unusedSimpArgs false
theorem underlying3' : Try.prog.underlying 3 = some (.int .i64) := Try.underlying3
theorem zero5 (m : Nat) : (Builtin.zeroCells (Value.int .u8 0).cells m) = (List.replicate m (Value.int .u8 0)).toArray := by
  apply Array.ext
  · simp [Builtin.zeroCells, Value.cells]
  · intro i h1 h2
    simp [Builtin.zeroCells, Value.cells, Nat.mod_one]
theorem under3 : Try.prog.underlying 3 = some (.int .i64) := Try.underlying3
theorem run_append_zeros (w : World) (B n m : Nat) (v : Value) (xs : List Value) (ty : TypeId) (hown : w.ownsRow B 5 1 v n xs) (hm : n + m ≤ 1000000000) (hB : B ≤ w.heap.size) :
    ∃ v' w', (Builtin.append_ #[41, 3] ty #[v, .int .i64 (m : Int)]).run Try.prog w = .ok v' w' ∧ w'.ownsRow B 5 1 v' (n + m) (xs ++ List.replicate m (.int .u8 0)) ∧ w.grownBy w' v.ownBlock := by
  obtain ⟨i5, hi5, hz5, hs5, hb5⟩ := info_parts info5
  have hw : IntKind.i64.wrap (m : Int) = (m : Int) := i64_small (by omega)
  have hw0 : IntKind.i64.wrap 0 = 0 := by decide
  have hneg : ¬ ((m : Int) < 0) := by omega
  have hbig : ¬ ((281474976710656 : Int) < (m : Int)) := by omega
  have h63 : n + m ≤ maxLen := by unfold maxLen; omega
  have hlen : (xs ++ List.replicate m (Value.int .u8 0)).length = (n + m) * 1 := by rw [List.length_append, hown.1, List.length_replicate]; omega
  have grown : ∀ (old : Nat), old < n + m → ∀ (row : Option Nat),
      (w.drew.alloc (.cells (xs.toArray ++ (List.replicate m (Value.int .u8 0)).toArray ++ Builtin.zeroCells (Value.int .u8 0).cells (grownCap w (n + m) old 5 - (n + m))) 5)).ownsRow B 5 1
        (.slice (some ⟨w.heap.size, 0, none⟩) (n + m) (grownCap w (n + m) old 5)) (n + m) (xs ++ List.replicate m (Value.int .u8 0)) ∧
      w.grownBy (w.drew.alloc (.cells (xs.toArray ++ (List.replicate m (Value.int .u8 0)).toArray ++ Builtin.zeroCells (Value.int .u8 0).cells (grownCap w (n + m) old 5 - (n + m))) 5)) row := by
    intro old ho row
    have hge := grownCap_ge w (n + m) old 5
    have hcm : grownCap w (n + m) old 5 ≤ maxLen := grownCap_le_maxLen w (n + m) old 5 h63
    refine ⟨⟨hlen, .inr ⟨w.heap.size, _, _, rfl, hB, heap_alloc_new w.drew _, hge, hcm, ?_, ?_⟩⟩, ⟨rfl, rfl, rfl, by simp, fun k hk _ => heap_alloc_old w.drew _ hk⟩⟩
    · simp only [Array.size_append, List.size_toArray, size_zeroCells, hown.1, List.length_replicate, Value.cells]
      simp; omega
    · simp only [Array.toList_append, List.append_assoc]
      rw [← List.append_assoc, ← hlen]
      exact List.take_left
  rcases hown.2 with ⟨rfl, rfl⟩ | ⟨g, cap, cur, rfl, hbg, hg, hnc, hcm, hcs, htake⟩
  · have hx : xs = [] := List.eq_nil_of_length_eq_zero (by simpa using hown.1)
    subst hx
    by_cases hm0 : m = 0
    · subst hm0
      refine ⟨.slice none 0 0, w, ?_, World.ownsRow_nil w B 5 1, ⟨rfl, rfl, rfl, Nat.le_refl _, fun _ _ _ => rfl⟩⟩
      simp [Builtin.append_, run_underlying Try.underlying41, run_underlying under3, sizeOf, typeInfo, zeroValue, hi5, hz5, hs5, hb5, Builtin.lenOf, Builtin.firstCells, asInt, asIntOf, hw, hw0]
    · have hgr := grown 0 (by omega) (Value.ownBlock (.slice none 0 0))
      simp only [Nat.zero_add, List.nil_append, Array.empty_append] at hgr ⊢
      refine ⟨_, _, ?_, hgr.1, hgr.2⟩
      have h48' : ¬ (281474976710656 < Builtin.nextslicecap m 0) := by rw [nextslicecap_zero (by omega)]; omega
      have h63' : ¬ ((9223372036854775807 : Int) < (m : Int)) := by omega
      simp [Builtin.append_, run_underlying Try.underlying41, run_underlying under3, sizeOf, typeInfo, zeroValue, hi5, hz5, hs5, hb5, Builtin.lenOf, asInt, asIntOf, hw, hneg, hbig, hm0, h48', h63', Question.forced, run_firstCells_none, newRow, grownCap, zero5]
  · by_cases hroom : n + m ≤ cap
    · by_cases hm0 : m = 0
      · subst hm0
        refine ⟨.slice (some ⟨g, 0, none⟩) n cap, w, ?_, ?_, ⟨rfl, rfl, rfl, Nat.le_refl _, fun _ _ _ => rfl⟩⟩
        · simp [Builtin.append_, run_underlying Try.underlying41, run_underlying under3, sizeOf, typeInfo, zeroValue, hi5, hz5, hs5, hb5, Builtin.lenOf, asInt, asIntOf, hw, hw0, hnc, storeCells]
        · simpa using hown
      · have hfit : n * 1 + 0 + (List.replicate m (Value.int .u8 0)).length ≤ cur.size := by rw [List.length_replicate, hcs]; omega
        have hst := run_storeCells_at Try.prog g (n * 1) 5 (List.replicate m (Value.int .u8 0)) 0 cur w hg hfit (fun u hu => by rw [List.eq_of_mem_replicate hu]; rfl)
        simp only [Nat.add_zero, Nat.mul_one, List.length_replicate] at hst
        refine ⟨.slice (some ⟨g, 0, none⟩) (n + m) cap, w.setRow g (cur.toList.take n ++ List.replicate m (Value.int .u8 0) ++ cur.toList.drop (n + m)).toArray, ?_, ⟨hlen, .inr ⟨g, cap, _, rfl, hbg, setRow_heap w g cur _ 5 _ hg, hroom, hcm, ?_, ?_⟩⟩, ⟨rfl, rfl, rfl, by simp, fun k _ hk => setRow_other w g k _ (fun e => hk (by simp [Value.ownBlock, e]))⟩⟩
        · simp [Builtin.append_, run_underlying Try.underlying41, run_underlying under3, sizeOf, typeInfo, zeroValue, hi5, hz5, hs5, hb5, Builtin.lenOf, asInt, asIntOf, hw, hneg, hbig, hm0, hroom, Addr.add_lit, zero5, hst]
        · simp only [List.size_toArray, List.length_append, List.length_take, List.length_drop, Array.length_toList, List.length_replicate]
          omega
        · rw [Nat.mul_one] at htake
          rw [htake, ← hlen]
          exact List.take_left
    · have holds : ∀ j u, xs[j]? = some u → w.cell? ((⟨g, 0, none⟩ : Addr).add j) = some u := hown.cells (g := g) rfl
      have hgr := grown cap (by omega) (Value.ownBlock (.slice (some ⟨g, 0, none⟩) n cap))
      refine ⟨_, _, ?_, hgr.1, hgr.2⟩
      have h48' : ¬ (281474976710656 < Builtin.nextslicecap (n + m) cap) := by
        have := growslice_fits (need := n + m) (old := cap) (bytes := 1) (by omega) (by omega)
        omega
      have h63' : ¬ ((9223372036854775807 : Int) < (n : Int) + (m : Int)) := by omega
      have hfo := run_firstCells_some (P := Try.prog) w.drew 1 n ⟨g, 0, none⟩ n cap xs hown.1 (by simpa using holds)
      have hm0 : m ≠ 0 := by omega
      simp [Builtin.append_, run_underlying Try.underlying41, run_underlying under3, sizeOf, typeInfo, zeroValue, hi5, hz5, hs5, hb5, Builtin.lenOf, asInt, asIntOf, hw, hneg, hbig, hm0, hroom, h48', h63', Question.forced, hfo, newRow, grownCap, zero5]
theorem app0 {ops : Array Oper} {rest : List Oper} {o : Oper} {a : Act} {Q : Exit → Act → World → Prop} {w : World} (hgd : o.guard = none) (s x : Operand) (ho : o.op = .call { callee := .builtin .append, args := #[s, x], argTypes := #[41, 3] })
    (B : Nat) (v : Value) (l : List Nat) (hs : a.eval s = v) (hown : w.ownsRow B 5 1 v l.length (row8 l)) (m : Nat) (hx : a.eval x = .int .i64 (m : Int)) (hm : l.length + m ≤ 1000000000) (hB : B ≤ w.heap.size)
    (h : ∀ v' w', w'.ownsRow B 5 1 v' (l ++ List.replicate m 0).length (row8 (l ++ List.replicate m 0)) → w.grownBy w' v.ownBlock → wpList Try.prog ops Q rest (a.put o.dst v') w') :
    wpList Try.prog ops Q (o :: rest) a w := by
  obtain ⟨v', w', hr, h1, h2⟩ := run_append_zeros w B l.length m v (row8 l) o.type hown hm hB
  have e : row8 l ++ List.replicate m (Value.int .u8 0) = row8 (l ++ List.replicate m 0) := by simp [row8]
  refine wpList_plain hgd fun K hK => ?_
  unfold Oper.wp execOp
  simp only [ho, resolve, invoke, builtin, Sem.run_bind, Sem.run_pure, Result.andThen_ok, List.map_toArray, List.map_cons, List.map_nil, hs, hx, hr]
  exact hK _ _ (h v' w' (by rw [List.length_append, List.length_replicate, ← e]; exact h1) h2)
end Go.Proofs.Ytjldcblklbikaaa

/- slices.Grow of nothing, slices.Concat of slices of bytes. No condition but that the bytes fit a machine. -/
namespace Go.Proofs.Ytjldcblklbikaaa
open Go.RowKit
set_option linter.unusedVariables false
set_option linter.unusedSimpArgs false
/-- a slice of bytes that is put behind others -/
structure Piece where
  adr : Option Addr
  cap : Nat
  bytes : List Nat
def total (xs : List Piece) : Nat := (xs.map fun x => x.bytes.length).sum
def allB (xs : List Piece) : List Nat := xs.flatMap fun x => x.bytes
theorem total_succ {xs : List Piece} {k : Nat} {x : Piece} (h : xs[k]? = some x) : total (xs.take (k + 1)) = total (xs.take k) + x.bytes.length := by
  unfold total
  rw [List.take_add_one, h]
  simp
theorem total_le (xs : List Piece) (k : Nat) : total (xs.take k) ≤ total xs := by
  have h : total xs = total (xs.take k) + total (xs.drop k) := by
    conv => lhs; rw [← List.take_append_drop k xs]
    unfold total
    rw [List.map_append, List.sum_append]
  omega
theorem allB_succ {xs : List Piece} {k : Nat} {x : Piece} (h : xs[k]? = some x) : allB (xs.take (k + 1)) = allB (xs.take k) ++ x.bytes := by
  unfold allB
  rw [List.take_add_one, h]
  simp
theorem allB_length (xs : List Piece) : (allB xs).length = total xs := by unfold allB total; simp [List.length_flatMap]
end Go.Proofs.Ytjldcblklbikaaa

/- Options that come: how they are read; are they more than is gone through. No condition but the form's reach. -/
namespace Go.Proofs.Ytjldcblklbikaaa
open Go.RowKit
set_option linter.unusedVariables false
set_option linter.unusedSimpArgs false
/-- an option in memory: its kind, where its data stand -/
structure Opt where
  kind : Nat
  adr : Option Addr
  cap : Nat
  data : List Nat
/-- a slice at A reads as these options, below block B -/
structure OptsAt (w : World) (B : Nat) (A : Option Addr) (L : List Opt) : Prop where
  at_ : L ≠ [] → ∃ b o, A = some ⟨b, o, none⟩ ∧ b < B ∧ ∀ i x, L[i]? = some x → w.cell? ⟨b, o + i * 2, none⟩ = some (.int .u8 (x.kind : Int)) ∧ w.cell? ⟨b, o + i * 2 + 1, none⟩ = some (.slice x.adr x.data.length x.cap)
  each : ∀ x ∈ L, Bs w B x.adr x.cap x.data ∧ x.kind < 256 ∧ (∀ y ∈ x.data, y < 256) ∧ x.cap ≤ 140737488351232
  many : L.length ≤ 140737488351232
theorem OptsAt.below {w w' : World} {B : Nat} {A : Option Addr} {L : List Opt} (h : OptsAt w B A L) (hb : Below B w w') : OptsAt w' B A L := by
  refine ⟨fun hl => ?_, fun x hx => ?_, h.many⟩
  · obtain ⟨b, o, e, hlt, hc⟩ := h.at_ hl
    refine ⟨b, o, e, hlt, fun i x hx => ?_⟩
    obtain ⟨h1, h2⟩ := hc i x hx
    exact ⟨(hb.cell (p := ⟨b, o + i * 2, none⟩) hlt).trans h1, (hb.cell (p := ⟨b, o + i * 2 + 1, none⟩) hlt).trans h2⟩
  · obtain ⟨h1, h2⟩ := h.each x hx
    exact ⟨h1.below hb, h2⟩
def totD (L : List Opt) : Nat := (L.map fun x => x.data.length).sum
theorem totD_succ {L : List Opt} {k : Nat} {x : Opt} (h : L[k]? = some x) : totD (L.take (k + 1)) = totD (L.take k) + x.data.length := by
  unfold totD
  rw [List.take_add_one, h]
  simp
/-- more than is gone through, or not -/
def GreatPost (L : List Opt) (w : World) (e : Ending) (w' : World) : Prop := ∃ b, e = .returned (.bool b) ∧ w = w' ∧ (b = false → L.length + totD L ≤ 5000)
end Go.Proofs.Ytjldcblklbikaaa

/- Options put as bytes: the walk. No condition but that they are few. -/
namespace Go.Proofs.Ytjldcblklbikaaa
open Go.RowKit
set_option linter.unusedVariables false
set_option linter.unusedSimpArgs false
/-- how many eights an option of so many bytes takes -/
def eightsO (n : Nat) : Nat := (2 + min n 2038 + 7) / 8
/-- an option's bytes -/
def optB (k : Nat) (d : List Nat) : List Nat := [k, eightsO d.length] ++ d.take 2038 ++ List.replicate (8 * eightsO d.length - 2 - min d.length 2038) 0
def putB (L : List Opt) : List Nat := L.flatMap fun x => optB x.kind x.data
theorem putB_succ {L : List Opt} {k : Nat} {x : Opt} (h : L[k]? = some x) : putB (L.take (k + 1)) = putB (L.take k) ++ optB x.kind x.data := by
  unfold putB
  rw [List.take_add_one, h]
  simp
theorem eights_bd (n : Nat) : 1 ≤ eightsO n ∧ eightsO n ≤ 255 ∧ 2 + min n 2038 ≤ 8 * eightsO n ∧ 8 * eightsO n ≤ 9 + min n 2038 := by unfold eightsO; omega
theorem optB_length (k : Nat) (d : List Nat) : (optB k d).length = 8 * eightsO d.length := by
  have := eights_bd d.length
  unfold optB
  simp only [List.length_append, List.length_cons, List.length_nil, List.length_take, List.length_replicate]
  omega
theorem putB_le (L : List Opt) : (putB L).length ≤ 9 * L.length + totD L := by
  induction L with
  | nil => simp [putB]
  | cons x L ih =>
    have h1 := eights_bd x.data.length
    have h2 := optB_length x.kind x.data
    simp only [putB, totD, List.flatMap_cons, List.length_append, List.length_cons, List.map_cons, List.sum_cons] at ih ⊢
    omega
def zer (z : Nat) : Array Value := (row8 (List.replicate z 0)).toArray
theorem make_zeros (z : Nat) (W : World) (hz : z ≤ 1000000) : (Instr.makeSlice 41 (.int .i64 (z : Int)) (.int .i64 (z : Int))).run Try.prog W = .ok (.slice (some ⟨W.heap.size, 0, none⟩) z z) (W.alloc (.cells (zer z) 5)) := by
  obtain ⟨i5, hi, hz0, hz1, hz2⟩ := info_parts info5
  have h := run_make (P := Try.prog) W 41 5 i5 (.int .u8 0) Try.underlying41 hi hz0 .i64 .i64 (z : Int) (z : Int) (by omega) (by omega) (by rw [hz2]; omega) (by omega)
  rw [h, hz1]
  have e : madeCells (Value.int .u8 0).cells (((z : Int)).toNat * 1) = zer z := by
    apply Array.ext
    · simp [madeCells, zer, row8]
    · intro i h1 h2
      simp [madeCells, zer, row8, Value.cells, Nat.mod_one]
  rw [e]
  simp
theorem putB_few {L : List Opt} (h : L.length + totD L ≤ 5000) (k : Nat) : (putB (L.take k)).length ≤ 1000000000 := by
  have h1 := putB_le (L.take k)
  have h2 : totD L = totD (L.take k) + totD (L.drop k) := by
    conv => lhs; rw [← List.take_append_drop k L]
    unfold totD
    rw [List.map_append, List.sum_append]
  have h3 : (L.take k).length ≤ L.length := List.length_take_le' ..
  omega
theorem heap3 (W : World) (a b c : Obj) : (((W.alloc a).alloc b).alloc c).drew.heap[W.heap.size]? = some a ∧ (((W.alloc a).alloc b).alloc c).drew.heap[W.heap.size + 1]? = some b ∧ (((W.alloc a).alloc b).alloc c).drew.heap[W.heap.size + 1 + 1]? = some c := by
  refine ⟨?_, ?_, ?_⟩
  · show (((W.alloc a).alloc b).alloc c).heap[W.heap.size]? = some a
    rw [heap_alloc_old _ _ (by simp; omega), heap_alloc_old _ _ (by simp)]; exact heap_alloc_new _ _
  · show (((W.alloc a).alloc b).alloc c).heap[W.heap.size + 1]? = some b
    rw [heap_alloc_old _ _ (by simp)]; have := heap_alloc_new (W.alloc a) b; simpa using this
  · show (((W.alloc a).alloc b).alloc c).heap[W.heap.size + 1 + 1]? = some c
    have := heap_alloc_new ((W.alloc a).alloc b) c; simpa using this
theorem put_pieces {W0 W3 : World} {B0 base p14 p5 p13 kd E m z cap : Nat} {adr : Option Addr} {data PB : List Nat} {u2 : Value} (_ : Below B0 W0 W3) (hown : W3.ownsRow base 5 1 u2 PB.length (row8 PB))
    (h14 : W3.heap[p14]? = some (.cells #[u2, .slice (some ⟨p5, 0, none⟩) 2 2, .slice adr m cap, .slice (some ⟨p13, 0, none⟩) z z] 41 (0, 0))) (h5 : W3.heap[p5]? = some (.cells #[.int .u8 (kd : Int), .int .u8 (E : Int)] 5 (0, 0)))
    (h13 : W3.heap[p13]? = some (.cells (zer z) 5 (0, 0))) (hx : Bs W3 W3.heap.size adr cap data) (hm : min data.length 2038 = m) (hz : z ≤ 1000000) :
    ∃ xs : List Piece, xs.length = 4 ∧ (∀ i x, xs[i]? = some x → W3.cell? ⟨p14, i, none⟩ = some (.slice x.adr x.bytes.length x.cap)) ∧ (∀ x ∈ xs, Bs W3 W3.heap.size x.adr x.cap x.bytes) ∧ allB xs = PB ++ ([kd, E] ++ data.take 2038 ++ List.replicate z 0) := by
  obtain ⟨A2, c2, rfl, hb2, _⟩ := Bs.own hown
  have ht : (data.take 2038).length = m := by rw [List.length_take]; omega
  refine ⟨[⟨A2, c2, PB⟩, ⟨some ⟨p5, 0, none⟩, 2, [kd, E]⟩, ⟨adr, cap, data.take 2038⟩, ⟨some ⟨p13, 0, none⟩, z, List.replicate z 0⟩], rfl, ?_, ?_, by simp [allB]⟩
  · intro i x hi
    rw [cell_blk h14]
    match i with
    | 0 => cases hi; rfl
    | 1 => cases hi; rfl
    | 2 => cases hi; simp only [ht]; rfl
    | 3 => cases hi; simp
    | i + 4 => simp at hi
  · intro x hxm
    simp only [List.mem_cons, List.not_mem_nil, or_false] at hxm
    rcases hxm with rfl | rfl | rfl | rfl
    · exact hb2
    · refine ⟨fun _ => ⟨p5, 0, rfl, lt_of_blk h5, fun k y hy => ?_⟩, by simp, (fun h => by cases h), (by show 2 ≤ maxLen; unfold maxLen; omega)⟩
      rw [cell_blk h5]
      match k with
      | 0 => simp at hy; subst hy; rfl
      | 1 => simp at hy; subst hy; rfl
      | k + 2 => simp at hy
    · refine ⟨fun hne => ?_, by have := hx.cap; simp only [List.length_take]; omega, fun h => ⟨by rw [(hx.nil h).1]; rfl, (hx.nil h).2⟩, hx.max⟩
      obtain ⟨b, o, e, hlt, hc⟩ := hx.rd (by intro e; apply hne; show data.take 2038 = []; rw [e]; rfl)
      exact ⟨b, o, e, hlt, fun k y hy => hc k y (by
        have hy : (data.take 2038)[k]? = some y := hy
        rw [List.getElem?_take] at hy
        split at hy
        · exact hy
        · cases hy)⟩
    · refine ⟨fun _ => ⟨p13, 0, rfl, lt_of_blk h13, fun k y hy => ?_⟩, by simp, (fun h => by cases h), ?_⟩
      · rw [cell_blk h13, Nat.zero_add]
        have := row8_get hy
        simpa [zer] using this
      · show z ≤ maxLen
        unfold maxLen; omega
/-- bytes of one's own, clipped -/
def PutPost (bs : List Nat) (w : World) (e : Ending) (w' : World) : Prop := ∃ A k, e = .returned (.slice A bs.length bs.length) ∧ w'.ownsRow w.heap.size 5 1 (.slice A bs.length k) bs.length (row8 bs) ∧ Below w.heap.size w w'
end Go.Proofs.Ytjldcblklbikaaa

/- Several texts in one: Same, Twin, Left. No condition beyond those that each part names. -/
/- Are two slices of bytes the same: the walk. No condition. -/
namespace Go.Proofs.Ytjldcblklbikaaa
open Go.RowKit
set_option linter.unusedVariables false
set_option linter.unusedSimpArgs false
theorem take_one {l : List Nat} {k x : Nat} (h : l[k]? = some x) : l.take (k + 1) = l.take k ++ [x] := by rw [List.take_add_one, h]; rfl
theorem same_no {l m : List Nat} {k x y : Nat} (hx : l[k]? = some x) (hy : m[k]? = some y) (h : x ≠ y) : (l == m) = false := by
  rw [beq_eq_false_iff_ne]
  rintro rfl
  rw [hx] at hy
  exact h (Option.some.inj hy)
theorem same_yes {l m : List Nat} {k : Nat} (h : l.take k = m.take k) (hk : ¬ (k < l.length ∧ k < m.length)) (hl : k ≤ l.length) (hm : k ≤ m.length) : (l == m) = decide (l.length = m.length) := by
  by_cases e : l.length = m.length
  · have h1 : l = m := by
      have e1 : l.take k = l := List.take_of_length_le (by omega)
      have e2 : m.take k = m := List.take_of_length_le (by omega)
      rw [← e1, ← e2, h]
    rw [h1]; simp
  · rw [decide_eq_false e, beq_eq_false_iff_ne]
    rintro rfl; exact e rfl
theorem drewN_twice (w : World) (a b : Nat) : (w.drewN a).drewN b = w.drewN (a + b) := by simp [World.drewN, Nat.add_assoc]
def SamePost (b : Bool) (w : World) (e : Ending) (w' : World) : Prop := e = .returned (.bool b) ∧ ∃ j, w' = w.drewN j
set_option maxRecDepth 100000 in
set_option maxHeartbeats 1000000 in
theorem same57 {A A2 : Option Addr} {c c2 B : Nat} {l m : List Nat} (w : World) (h : Bs w B A c l) (h2 : Bs w B A2 c2 m) (hl : l.length ≤ 1000000000) :
    Calls Try.prog 50 #[.slice A l.length c, .slice A2 m.length c2] w (SamePost (l == m) w) := by
  have H1 := Lib.hid h.rd
  have H2 := Lib.hid h2.rd
  obtain ⟨n, hn⟩ : ∃ n, l.length = n := ⟨_, rfl⟩
  obtain ⟨p, hp⟩ : ∃ p, m.length = p := ⟨_, rfl⟩
  have HN := Lib.hid hn
  have HP := Lib.hid hp
  rw [hn] at hl ⊢
  rw [hp]
  clear h h2 hn hp
  go_enter Try.func50, Try.ntmps50
  go_wp2_with fail
  go_loopw [5] (fun i wr => ∃ k j : Nat, k ≤ n ∧ k ≤ p ∧ i = .int .i64 k ∧ l.take k = m.take k ∧ wr = w.drewN j) (fun i _ => n - (intOf i).toNat)
  case atStart => exact ⟨0, 0, Nat.zero_le _, Nat.zero_le _, rfl, rfl, rfl⟩
  case round =>
    obtain ⟨k, j, hk, hk2, rfl, ht, rfl⟩ := hrel
    have HT := Lib.hid ht
    clear ht
    by_cases hlt : k < n
    · by_cases hlt2 : k < p
      · obtain ⟨x, hx⟩ : ∃ x, l[k]? = some x := ⟨l[k]'(by rw [HN.out]; exact hlt), List.getElem?_eq_getElem _⟩
        obtain ⟨y, hy⟩ : ∃ y, m[k]? = some y := ⟨m[k]'(by rw [HP.out]; exact hlt2), List.getElem?_eq_getElem _⟩
        obtain ⟨b, o, rfl, hb, hc⟩ := H1.out (by rintro rfl; simp at hx)
        obtain ⟨b2, o2, rfl, hb2, hc2⟩ := H2.out (by rintro rfl; simp at hy)
        have c1 := hc k x hx
        have d1 := hc2 k y hy
        have HX := Lib.hid hx
        have HY := Lib.hid hy
        have t1 : decide ((k : Int) < (n : Int)) = true := by simp; omega
        have t2 : decide ((k : Int) < (p : Int)) = true := by simp; omega
        clear hx hy hc hc2
        by_cases hxy : x = y
        · have t3 : ((x : Int) != y) = false := by rw [bne_eq_false_iff_eq]; omega
          have HS : Hid (l.take (k + 1) = m.take (k + 1)) := Lib.hid (by rw [take_one HX.out, take_one HY.out, HT.out, hxy])
          clear hxy
          go_wp2_with fail
          go_quiet (fail)
          go_wp2_with fail
          go_roundw
          case rel => exact ⟨k + 1, _, by omega, by omega, by go_num, HS.out, rfl⟩
          case measure => simp [intOf]; omega
        · have t3 : ((x : Int) != y) = true := by rw [bne_iff_ne]; omega
          have HS := Lib.hid (same_no HX.out HY.out hxy)
          clear hxy
          go_wp2_with fail
          go_quiet (fail)
          go_wp2_with fail
          go_ret
          exact ⟨congrArg (fun b => Ending.returned (.bool b)) HS.out.symm, _, drewN_twice _ _ _⟩
      · have t1 : decide ((k : Int) < (n : Int)) = true := by simp; omega
        have t2 : decide ((k : Int) < (p : Int)) = false := by simp; omega
        have HS := Lib.hid (same_yes HT.out (by rw [HP.out]; omega) (by rw [HN.out]; omega) (by rw [HP.out]; omega))
        have e0 : ((n : Int) == p) = false := by rw [beq_eq_false_iff_ne]; omega
        have e1 : decide (l.length = m.length) = false := by rw [HN.out, HP.out]; exact decide_eq_false (by omega)
        rw [e1] at HS
        clear e1
        go_wp2_with fail
        go_ret
        exact ⟨congrArg (fun b => Ending.returned (.bool b)) HS.out.symm, _, rfl⟩
    · have t1 : decide ((k : Int) < (n : Int)) = false := by simp; omega
      have HS := Lib.hid (same_yes HT.out (by rw [HN.out]; omega) (by rw [HN.out]; omega) (by rw [HP.out]; omega))
      have e1 : decide (l.length = m.length) = ((n : Int) == p) := by rw [HN.out, HP.out, Bool.eq_iff_iff]; simp only [decide_eq_true_eq, beq_iff_eq]; omega
      rw [e1] at HS
      clear e1
      go_wp2_with fail
      go_ret
      exact ⟨congrArg (fun b => Ending.returned (.bool b)) HS.out.symm, _, rfl⟩
set_option maxRecDepth 100000 in
set_option maxHeartbeats 1000000 in
theorem same19 {A A2 : Option Addr} {c c2 B : Nat} {l m : List Nat} (w : World) (h : Bs w B A c l) (h2 : Bs w B A2 c2 m) (hl : l.length ≤ 1000000000) :
    Calls Try.prog 26 #[.slice A l.length c, .slice A2 m.length c2] w (SamePost (l == m) w) := by
  have HS := Lib.hid (same57 w h h2 hl)
  obtain ⟨n, hn⟩ : ∃ n, l.length = n := ⟨_, rfl⟩
  obtain ⟨p, hp⟩ : ∃ p, m.length = p := ⟨_, rfl⟩
  rw [hn, hp] at HS ⊢
  obtain ⟨q, hq⟩ : ∃ q, (l == m) = q := ⟨_, rfl⟩
  rw [hq] at HS ⊢
  clear h h2 hn hp hq hl
  go_enter Try.func26, Try.ntmps26
  go_wp2_with fail
  refine (HS.out).mono ?_
  rintro e w1 ⟨rfl, j, rfl⟩
  go_wp2_with fail
  go_ret
  exact ⟨rfl, j, rfl⟩
end Go.Proofs.Ytjldcblklbikaaa

/- A twin of bytes: the walk. No condition but that the bytes fit a machine. -/
namespace Go.Proofs.Ytjldcblklbikaaa
open Go.RowKit
set_option linter.unusedVariables false
set_option linter.unusedSimpArgs false
/-- a twin's block: the bytes, and strange ones behind -/
def twinL (l : List Nat) (s : Nat) : List Nat := l ++ List.replicate 4 s
/-- while it is filled -/
def twinTo (l : List Nat) (s k : Nat) : List Nat := (twinL l s).take k ++ List.replicate (l.length + 4 - k) 0
theorem twinL_length (l : List Nat) (s : Nat) : (twinL l s).length = l.length + 4 := by simp [twinL]
theorem twinTo_set {l : List Nat} {s k x : Nat} (hk : k < l.length + 4) (hx : (twinL l s)[k]? = some x) : (row8 (twinTo l s k)).toArray.setIfInBounds k (.int .u8 (x : Int)) = (row8 (twinTo l s (k + 1))).toArray := by
  rw [List.setIfInBounds_toArray]
  congr 1
  have h1 : ((twinL l s).take k).length = k := by rw [List.length_take, twinL_length]; omega
  have h2 : List.replicate (l.length + 4 - k) 0 = 0 :: List.replicate (l.length + 4 - (k + 1)) 0 := by
    rw [show l.length + 4 - k = (l.length + 4 - (k + 1)) + 1 by omega, List.replicate_succ]
  unfold twinTo
  rw [List.take_add_one, hx, h2, row8_append, row8_append]
  have h3 : (row8 ((twinL l s).take k)).length = k := by rw [row8_length]; exact h1
  rw [List.set_append_right _ _ (by omega), h3, Nat.sub_self]
  simp [row8]
theorem twinTo_get {l : List Nat} {s k : Nat} (hk : k < l.length + 4) : (row8 (twinTo l s k)).toArray[k]? = some (.int .u8 0) := by
  have h1 : ((twinL l s).take k).length = k := by rw [List.length_take, twinL_length]; omega
  have : (twinTo l s k)[k]? = some 0 := by
    unfold twinTo
    rw [List.getElem?_append_right (by omega), h1, Nat.sub_self, List.getElem?_replicate, if_pos (by omega)]
  simpa using row8_get this
theorem twinTo_all {l : List Nat} {s : Nat} : twinTo l s (l.length + 4) = twinL l s := by
  unfold twinTo
  rw [Nat.sub_self, List.take_of_length_le (by rw [twinL_length]; exact Nat.le_refl _)]
  simp
structure TwinI (w W : World) (g : Nat) (l : List Nat) (s k : Nat) : Prop where
  row : W.heap[g]? = some (.cells (row8 (twinTo l s k)).toArray 5 (0, 0))
  below : Below g w W
theorem TwinI.one {w W : World} {g s k x : Nat} {l : List Nat} (I : TwinI w W g l s k) (hk : k < l.length + 4) (hx : (twinL l s)[k]? = some x) : TwinI w (W.setCell ⟨g, k, none⟩ (.int .u8 (x : Int))) g l s (k + 1) := by
  have t := Turned.setCell I.row k (.int .u8 (x : Int))
  rw [twinTo_set hk hx] at t
  exact ⟨t.get (lt_of_blk I.row), I.below.trans (t.below (Nat.le_refl _))⟩
theorem TwinI.two {w W : World} {g s k x : Nat} {y : Value} {l : List Nat} (I : TwinI w W g l s k) (hk : k < l.length + 4) (hx : (twinL l s)[k]? = some x) : TwinI w ((W.setCell ⟨g, k, none⟩ y).setCell ⟨g, k, none⟩ (.int .u8 (x : Int))) g l s (k + 1) := by
  have t0 := Turned.setCell I.row k y
  have t := t0.trans (Turned.setCell (t0.get (lt_of_blk I.row)) k (.int .u8 (x : Int)))
  rw [show ((row8 (twinTo l s k)).toArray.setIfInBounds k y).setIfInBounds k (.int .u8 (x : Int)) = (row8 (twinTo l s k)).toArray.setIfInBounds k (.int .u8 (x : Int)) by
    apply Array.ext_getElem?; intro j; simp only [Array.getElem?_setIfInBounds, Array.size_setIfInBounds]; by_cases h : k = j <;> simp [h], twinTo_set hk hx] at t
  exact ⟨t.get (lt_of_blk I.row), I.below.trans (t.below (Nat.le_refl _))⟩
/-- what a twin is -/
def TwinPost (l : List Nat) (s : Nat) (w : World) (e : Ending) (w' : World) : Prop := e = .returned (.slice (some ⟨w.heap.size, 0, none⟩) l.length (l.length + 4)) ∧ w'.heap[w.heap.size]? = some (.cells (row8 (twinL l s)).toArray 5 (0, 0)) ∧ Below w.heap.size w w'
set_option maxRecDepth 100000 in
set_option maxHeartbeats 2000000 in
theorem twin46 {A : Option Addr} {c : Nat} {l : List Nat} (s : Nat) (w : World) (h : Bs w w.heap.size A c l) (hl : l.length ≤ 5000) :
    Calls Try.prog 53 #[.slice A l.length c, .int .u8 (s : Int)] w (TwinPost l s w) := by
  have HRD := Lib.hid h.rd
  obtain ⟨n, hn⟩ : ∃ n, l.length = n := ⟨_, rfl⟩
  have HN := Lib.hid hn
  rw [hn] at hl ⊢
  clear h hn
  have hmk : ∀ W : World, (Instr.makeSlice 41 (.int .i64 ((n : Int) + 4)) (.int .i64 ((n : Int) + 4))).run Try.prog W = .ok (.slice (some ⟨W.heap.size, 0, none⟩) (n + 4) (n + 4)) (W.alloc (.cells (zer (n + 4)) 5)) := fun W => make_zeros (n + 4) W (by omega)
  have I0 : TwinI w (w.alloc (.cells (zer (n + 4)) 5)) w.heap.size l s 0 := ⟨by rw [heap_alloc_new]; unfold zer twinTo; rw [HN.out]; rfl, (Below.refl _ _).alloc (Nat.le_refl _) _⟩
  have HI := Lib.hid I0
  clear I0
  go_enter Try.func53, Try.ntmps53
  go_wp2_with fail
  obtain ⟨g, hg⟩ : ∃ g, g = w.heap.size := ⟨_, rfl⟩
  rw [← hg] at HI ⊢
  have NG := Lib.hid hg; clear hg
  go_loopw [6] (fun i wr => ∃ k : Nat, k ≤ n + 4 ∧ i = .int .i64 k ∧ TwinI w wr g l s k) (fun i _ => n + 4 - (intOf i).toNat)
  case atStart => exact ⟨0, by omega, rfl, HI.out⟩
  case round =>
    clear HI
    obtain ⟨k, hk, rfl, I⟩ := hrel
    by_cases hlt : k < n + 4
    · have c0 := cell_blk I.row k
      rw [twinTo_get (by rw [HN.out]; exact hlt)] at c0
      have f0 := frozen_blk I.row k
      have HI := Lib.hid I
      clear I
      have t1 : (k : Int) < (n : Int) + 4 := by omega
      by_cases hln : k < n
      · obtain ⟨x, hx⟩ : ∃ x, l[k]? = some x := ⟨l[k]'(by rw [HN.out]; exact hln), List.getElem?_eq_getElem _⟩
        obtain ⟨b, o, rfl, hb, hc⟩ := HRD.out (by rintro rfl; simp at hx)
        have c1 : wr.cell? ⟨b, o + k, none⟩ = some (.int .u8 (x : Int)) := (HI.out.below.cell (p := ⟨b, o + k, none⟩) (by rw [NG.out]; exact hb)).trans (hc k x hx)
        have hbg : b ≠ g := by rw [NG.out]; omega
        have HZ : Hid (TwinI w ((wr.setCell ⟨g, k, none⟩ (.int .u8 (s : Int))).setCell ⟨g, k, none⟩ (.int .u8 (x : Int))) g l s (k + 1)) := Lib.hid (HI.out.two (by rw [HN.out]; exact hlt) (by unfold twinL; rw [List.getElem?_append_left (by rw [HN.out]; exact hln)]; exact hx))
        clear hx hc
        go_wp2_with fail
        go_roundw
        case rel => exact ⟨k + 1, by omega, by go_num, HZ.out⟩
        case measure => simp [intOf]; omega
      · have HZ : Hid (TwinI w (wr.setCell ⟨g, k, none⟩ (.int .u8 (s : Int))) g l s (k + 1)) := Lib.hid (HI.out.one (by rw [HN.out]; exact hlt) (by unfold twinL; rw [List.getElem?_append_right (by rw [HN.out]; omega), List.getElem?_replicate, if_pos (by rw [HN.out]; omega)]))
        go_wp2_with fail
        go_roundw
        case rel => exact ⟨k + 1, by omega, by go_num, HZ.out⟩
        case measure => simp [intOf]; omega
    · have e : k = n + 4 := by omega
      have HR : Hid (wr.heap[g]? = some (.cells (row8 (twinL l s)).toArray 5 (0, 0))) := Lib.hid (by rw [I.row, e, ← HN.out, twinTo_all])
      have HB := Lib.hid I.below
      have t1 : ¬ ((k : Int) < (n : Int) + 4) := by omega
      clear I
      go_wp2_with fail
      go_ret
      exact ⟨by rw [← NG.out, HN.out]; rfl, by rw [← NG.out]; exact HR.out, by rw [← NG.out]; exact HB.out⟩
set_option maxRecDepth 100000 in
set_option maxHeartbeats 1000000 in
theorem twin9 {A : Option Addr} {c : Nat} {l : List Nat} (w : World) (h : Bs w w.heap.size A c l) (hl : l.length ≤ 5000) :
    Calls Try.prog 33 #[.slice A l.length c] w (TwinPost l 199 w) := by
  have HT := Lib.hid (twin46 199 w h hl)
  obtain ⟨n, hn⟩ : ∃ n, l.length = n := ⟨_, rfl⟩
  have HN := Lib.hid hn
  rw [hn] at HT ⊢
  clear h hl hn
  go_enter Try.func33, Try.ntmps33
  go_wp2_with fail
  refine (HT.out).mono ?_
  rintro e w1 ⟨rfl, h1, h2⟩
  have H1 := Lib.hid h1
  have H2 := Lib.hid h2
  clear h1 h2 HT
  go_wp2_with fail
  go_ret
  exact ⟨rfl, H1.out, H2.out⟩
end Go.Proofs.Ytjldcblklbikaaa

/- Is a twin of bytes as it was made: the walk. No condition but that the bytes are few. -/
namespace Go.Proofs.Ytjldcblklbikaaa
open Go.RowKit
set_option linter.unusedVariables false
set_option linter.unusedSimpArgs false
theorem twin_bs {w : World} {g s : Nat} {l : List Nat} (h : w.heap[g]? = some (.cells (row8 (twinL l s)).toArray 5 (0, 0))) (hl : l.length ≤ 5000) : Bs w w.heap.size (some ⟨g, 0, none⟩) (l.length + 4) l := by
  refine ⟨fun _ => ⟨g, 0, rfl, lt_of_blk h, fun k x hx => ?_⟩, by omega, (fun e => by cases e), by unfold maxLen; omega⟩
  rw [Nat.zero_add, cell_blk h]
  have : (twinL l s)[k]? = some x := by unfold twinL; rw [List.getElem?_append_left (List.getElem?_eq_some_iff.1 hx).1]; exact hx
  simpa using row8_get this
theorem twin_room {w : World} {g s i : Nat} {l : List Nat} (h : w.heap[g]? = some (.cells (row8 (twinL l s)).toArray 5 (0, 0))) (hi : i < 4) : w.cell? ⟨g, l.length + i, none⟩ = some (.int .u8 (s : Int)) := by
  rw [cell_blk h]
  have : (twinL l s)[l.length + i]? = some s := by unfold twinL; rw [List.getElem?_append_right (by omega), List.getElem?_replicate, if_pos (by omega)]
  simpa using row8_get this
set_option maxRecDepth 100000 in
set_option maxHeartbeats 1000000 in
theorem left53 {A : Option Addr} {c g s : Nat} {l : List Nat} (w : World) (h : Bs w w.heap.size A c l) (hg : w.heap[g]? = some (.cells (row8 (twinL l s)).toArray 5 (0, 0))) (hl : l.length ≤ 5000) :
    Calls Try.prog 67 #[.slice (some ⟨g, 0, none⟩) l.length (l.length + 4), .slice A l.length c, .int .u8 (s : Int)] w (SamePost true w) := by
  have HS := Lib.hid (same57 w (twin_bs hg hl) h (by omega))
  rw [show (l == l) = true from beq_self_eq_true _] at HS
  have HR := Lib.hid (fun (i : Nat) (hi : i < 4) => twin_room (i := i) hg hi)
  obtain ⟨n, hn⟩ : ∃ n, l.length = n := ⟨_, rfl⟩
  rw [hn] at HS HR hl ⊢
  clear h hg hn
  have hcap : n < n + 4 := by omega
  go_enter Try.func67, Try.ntmps67
  go_wp2_with fail
  refine (HS.out).mono ?_
  rintro e w1 ⟨rfl, j, rfl⟩
  go_wp2_with fail
  go_loop [8] (fun i => ∃ k : Nat, k ≤ 4 ∧ i = .int .i64 k) (fun i => 4 - (intOf i).toNat)
  case atStart => exact ⟨0, by omega, rfl⟩
  case round =>
    obtain ⟨k, hk, rfl⟩ := hrel
    by_cases hlt : k < 4
    · have c0 := HR.out k hlt
      have t1 : (k : Int) < 4 := by omega
      go_wp2_with fail
      go_round
      case rel => exact ⟨k + 1, by omega, by go_num⟩
      case measure => simp [intOf]; omega
    · obtain rfl : k = 4 := by omega
      go_wp2_with fail
      go_ret
      exact ⟨rfl, j, rfl⟩
set_option maxRecDepth 100000 in
set_option maxHeartbeats 1000000 in
theorem left13 {A : Option Addr} {c g : Nat} {l : List Nat} (w : World) (h : Bs w w.heap.size A c l) (hg : w.heap[g]? = some (.cells (row8 (twinL l 199)).toArray 5 (0, 0))) (hl : l.length ≤ 5000) :
    Calls Try.prog 51 #[.slice (some ⟨g, 0, none⟩) l.length (l.length + 4), .slice A l.length c] w (SamePost true w) := by
  have HS := Lib.hid (left53 w h hg hl)
  obtain ⟨n, hn⟩ : ∃ n, l.length = n := ⟨_, rfl⟩
  rw [hn] at HS ⊢
  clear h hg hl hn
  go_enter Try.func51, Try.ntmps51
  go_wp2_with fail
  refine (HS.out).mono ?_
  rintro e w1 ⟨rfl, j, rfl⟩
  go_wp2_with fail
  go_ret
  exact ⟨rfl, j, rfl⟩
theorem two_set {w : World} {p : Nat} {u0 u1 v0 v1 : Value} {t : TypeId} (h : w.heap[p]? = some (.cells #[u0, u1] t (0, 0))) : Turned p (.cells #[v0, v1] t (0, 0)) w ((w.setCell ⟨p, 0, none⟩ v0).setCell ⟨p, 1, none⟩ v1) := by
  have t0 := Turned.setCell h 0 v0
  exact t0.trans (Turned.setCell (t0.get (lt_of_blk h)) 1 v1)
theorem own_blk2 {w : World} {B e s n kb T : Nat} {v : Value} {xs : List Value} {cs : Array Value} {z : Nat × Nat} (h : w.ownsRow B e s v n xs) (k : w.heap[kb]? = some (.cells cs T z)) (hne : e ≠ T) : v.ownBlock = none ∨ v.ownBlock ≠ some kb := by
  rcases h.2 with ⟨rfl, _⟩ | ⟨g, cap, cur, rfl, hb, hg, _⟩
  · exact .inl rfl
  · right
    intro x
    simp only [Value.ownBlock, Option.some.injEq] at x
    subst x
    rw [hg] at k
    cases k
    exact hne rfl
def BoolPost (b : Bool) (w : World) (e : Ending) (w' : World) : Prop := e = .returned (.bool b) ∧ Below w.heap.size w w'
end Go.Proofs.Ytjldcblklbikaaa
