/- Options put as bytes: the walk. No condition but that they are few. -/
import Derived.Test.YtjldcblklbikaaaCats
namespace Go.Proofs.Ytjldcblklbikaaa
open Go.RowKit
set_option linter.unusedVariables false
set_option linter.unusedSimpArgs false
/-- how many eights an option of so many bytes takes -/
def eightsO (n : Nat) : Nat := (2 + min n 2038 + 7) / 8
/-- an option's bytes -/
def optB (k : Nat) (d : List Nat) : List Nat := [k, eightsO d.length] ++ d.take 2038 ++ List.replicate (8 * eightsO d.length - 2 - min d.length 2038) 0
def putB (L : List Opt) : List Nat := L.flatMap fun x => optB x.kind x.data
theorem putB_succ {L : List Opt} {k : Nat} {x : Opt} (h : L[k]? = some x) : putB (L.take (k + 1)) = putB (L.take k) ++ optB x.kind x.data := by
  unfold putB
  rw [List.take_add_one, h]
  simp
theorem eights_bd (n : Nat) : 1 ≤ eightsO n ∧ eightsO n ≤ 255 ∧ 2 + min n 2038 ≤ 8 * eightsO n ∧ 8 * eightsO n ≤ 9 + min n 2038 := by unfold eightsO; omega
theorem optB_length (k : Nat) (d : List Nat) : (optB k d).length = 8 * eightsO d.length := by
  have := eights_bd d.length
  unfold optB
  simp only [List.length_append, List.length_cons, List.length_nil, List.length_take, List.length_replicate]
  omega
theorem putB_le (L : List Opt) : (putB L).length ≤ 9 * L.length + totD L := by
  induction L with
  | nil => simp [putB]
  | cons x L ih =>
    have h1 := eights_bd x.data.length
    have h2 := optB_length x.kind x.data
    simp only [putB, totD, List.flatMap_cons, List.length_append, List.length_cons, List.map_cons, List.sum_cons] at ih ⊢
    omega
def zer (z : Nat) : Array Value := (row8 (List.replicate z 0)).toArray
theorem make_zeros (z : Nat) (W : World) (hz : z ≤ 1000000) : (Instr.makeSlice 41 (.int .i64 (z : Int)) (.int .i64 (z : Int))).run Try.prog W = .ok (.slice (some ⟨W.heap.size, 0, none⟩) z z) (W.alloc (.cells (zer z) 5)) := by
  obtain ⟨i5, hi, hz0, hz1, hz2⟩ := info_parts info5
  have h := run_make (P := Try.prog) W 41 5 i5 (.int .u8 0) Try.underlying41 hi hz0 .i64 .i64 (z : Int) (z : Int) (by omega) (by omega) (by rw [hz2]; omega) (by omega)
  rw [h, hz1]
  have e : madeCells (Value.int .u8 0).cells (((z : Int)).toNat * 1) = zer z := by
    apply Array.ext
    · simp [madeCells, zer, row8]
    · intro i h1 h2
      simp [madeCells, zer, row8, Value.cells, Nat.mod_one]
  rw [e]
  simp
theorem putB_few {L : List Opt} (h : L.length + totD L ≤ 5000) (k : Nat) : (putB (L.take k)).length ≤ 1000000000 := by
  have h1 := putB_le (L.take k)
  have h2 : totD L = totD (L.take k) + totD (L.drop k) := by
    conv => lhs; rw [← List.take_append_drop k L]
    unfold totD
    rw [List.map_append, List.sum_append]
  have h3 : (L.take k).length ≤ L.length := List.length_take_le' ..
  omega
theorem heap3 (W : World) (a b c : Obj) : (((W.alloc a).alloc b).alloc c).drew.heap[W.heap.size]? = some a ∧ (((W.alloc a).alloc b).alloc c).drew.heap[W.heap.size + 1]? = some b ∧ (((W.alloc a).alloc b).alloc c).drew.heap[W.heap.size + 1 + 1]? = some c := by
  refine ⟨?_, ?_, ?_⟩
  · show (((W.alloc a).alloc b).alloc c).heap[W.heap.size]? = some a
    rw [heap_alloc_old _ _ (by simp; omega), heap_alloc_old _ _ (by simp)]; exact heap_alloc_new _ _
  · show (((W.alloc a).alloc b).alloc c).heap[W.heap.size + 1]? = some b
    rw [heap_alloc_old _ _ (by simp)]; have := heap_alloc_new (W.alloc a) b; simpa using this
  · show (((W.alloc a).alloc b).alloc c).heap[W.heap.size + 1 + 1]? = some c
    have := heap_alloc_new ((W.alloc a).alloc b) c; simpa using this
theorem put_pieces {W0 W3 : World} {B0 base p14 p5 p13 kd E m z cap : Nat} {adr : Option Addr} {data PB : List Nat} {u2 : Value} (_ : Below B0 W0 W3) (hown : W3.ownsRow base 5 1 u2 PB.length (row8 PB))
    (h14 : W3.heap[p14]? = some (.cells #[u2, .slice (some ⟨p5, 0, none⟩) 2 2, .slice adr m cap, .slice (some ⟨p13, 0, none⟩) z z] 41 (0, 0))) (h5 : W3.heap[p5]? = some (.cells #[.int .u8 (kd : Int), .int .u8 (E : Int)] 5 (0, 0)))
    (h13 : W3.heap[p13]? = some (.cells (zer z) 5 (0, 0))) (hx : Bs W3 W3.heap.size adr cap data) (hm : min data.length 2038 = m) (hz : z ≤ 1000000) :
    ∃ xs : List Piece, xs.length = 4 ∧ (∀ i x, xs[i]? = some x → W3.cell? ⟨p14, i, none⟩ = some (.slice x.adr x.bytes.length x.cap)) ∧ (∀ x ∈ xs, Bs W3 W3.heap.size x.adr x.cap x.bytes) ∧ allB xs = PB ++ ([kd, E] ++ data.take 2038 ++ List.replicate z 0) := by
  obtain ⟨A2, c2, rfl, hb2, _⟩ := Bs.own hown
  have ht : (data.take 2038).length = m := by rw [List.length_take]; omega
  refine ⟨[⟨A2, c2, PB⟩, ⟨some ⟨p5, 0, none⟩, 2, [kd, E]⟩, ⟨adr, cap, data.take 2038⟩, ⟨some ⟨p13, 0, none⟩, z, List.replicate z 0⟩], rfl, ?_, ?_, by simp [allB]⟩
  · intro i x hi
    rw [cell_blk h14]
    match i with
    | 0 => cases hi; rfl
    | 1 => cases hi; rfl
    | 2 => cases hi; simp only [ht]; rfl
    | 3 => cases hi; simp
    | i + 4 => simp at hi
  · intro x hxm
    simp only [List.mem_cons, List.not_mem_nil, or_false] at hxm
    rcases hxm with rfl | rfl | rfl | rfl
    · exact hb2
    · refine ⟨fun _ => ⟨p5, 0, rfl, lt_of_blk h5, fun k y hy => ?_⟩, by simp, (fun h => by cases h), (by show 2 ≤ maxLen; unfold maxLen; omega)⟩
      rw [cell_blk h5]
      match k with
      | 0 => simp at hy; subst hy; rfl
      | 1 => simp at hy; subst hy; rfl
      | k + 2 => simp at hy
    · refine ⟨fun hne => ?_, by have := hx.cap; simp only [List.length_take]; omega, fun h => ⟨by rw [(hx.nil h).1]; rfl, (hx.nil h).2⟩, hx.max⟩
      obtain ⟨b, o, e, hlt, hc⟩ := hx.rd (by intro e; apply hne; show data.take 2038 = []; rw [e]; rfl)
      exact ⟨b, o, e, hlt, fun k y hy => hc k y (by
        have hy : (data.take 2038)[k]? = some y := hy
        rw [List.getElem?_take] at hy
        split at hy
        · exact hy
        · cases hy)⟩
    · refine ⟨fun _ => ⟨p13, 0, rfl, lt_of_blk h13, fun k y hy => ?_⟩, by simp, (fun h => by cases h), ?_⟩
      · rw [cell_blk h13, Nat.zero_add]
        have := row8_get hy
        simpa [zer] using this
      · show z ≤ maxLen
        unfold maxLen; omega
/-- bytes of one's own, clipped -/
def PutPost (bs : List Nat) (w : World) (e : Ending) (w' : World) : Prop := ∃ A k, e = .returned (.slice A bs.length bs.length) ∧ w'.ownsRow w.heap.size 5 1 (.slice A bs.length k) bs.length (row8 bs) ∧ Below w.heap.size w w'
end Go.Proofs.Ytjldcblklbikaaa
