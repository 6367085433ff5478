/- Two packets that have the same data are the same: the walk. No condition but that the body is shorter than a thousand million bytes. (Written out by exp.py.) -/
import Derived.Test.YtjldcblklbikaaaFP
namespace Go.Proofs.Ytjldcblklbikaaa
open Go.RowKit
set_option linter.unusedVariables false
set_option linter.unusedSimpArgs false
theorem wpList_load_mid_w {P : Program} {ops : Array Oper} {rest : List Oper} {op : Oper} {a : Act} {w : World} {Q : Exit → Act → World → Prop} (hw : Region.wanted op (yielded ops a.tmps) = true) (ty : TypeId) (x : Operand) (ho : op.op = .load ty x)
    (b o : Nat) (hx : a.eval x = .pointer (some ⟨b, o, none⟩)) (cs : List Value) (d : TypeDesc) (hc : w.rangeAt b o cs)
    (hu : P.underlying ty = some d) (hd : d.isRow = true) (hi : (P.info? ty).map (·.size) = some cs.length)
    (h : wpList P ops Q rest (a.put op.dst (.agg cs.toArray)) w) : wpList P ops Q (op :: rest) a w :=
  wpList_step fun K hK => by rw [if_pos hw]; exact wp_load_mid ty x ho b o hx cs d hc hu hd hi (hK _ _ h)
theorem eq36t {l : List Nat} (hl : ∀ x ∈ l, x < 256) (h : l.length = 16) (W : World) : (binOp .eql 36 (.agg (row8 l).toArray) (.agg (row8 l).toArray)).run Try.prog W = .ok (.bool true) W := by
  have e := eq36 hl hl h h 9998 W
  simp only [binOp, Op.equal, Op.maxDepth]
  simp [e]
theorem eq40t (a d : Bool) (b c : Int) (W : World) : (binOp .eql 40 (.agg #[.bool a, .int .u32 b, .int .u16 c, .bool d]) (.agg #[.bool a, .int .u32 b, .int .u16 c, .bool d])).run Try.prog W = .ok (.bool true) W := by
  go_simp
attribute [-go_sem] run_equalIn_agg run_eql_struct in
set_option maxRecDepth 100000 in
set_option maxHeartbeats 1000000 in
theorem same18 {P Q : List Value} {x : Pk} {A A2 : Option Addr} {c c2 : Nat} (w : World) (h : PkAt P x A c) (k : PkAt Q x A2 c2) (hb : Bs w w.heap.size A c x.body) (kb : Bs w w.heap.size A2 c2 x.body) (hl : x.body.length ≤ 1000000000) :
    Calls Try.prog 18 #[.agg P.toArray, .agg Q.toArray] w (BoolPost true w) := by
  obtain ⟨V, hV⟩ : ∃ V, V = (w.alloc (.cells P.toArray 43)).alloc (.cells Q.toArray 43) := ⟨_, rfl⟩
  have hal : Below w.heap.size w V := by rw [hV]; exact ((Below.refl _ _).alloc (Nat.le_refl _) _).alloc (by simp) _
  have b1 : V.heap[w.heap.size]? = some (.cells P.toArray 43 (0, 0)) := by rw [hV, heap_alloc_old _ _ (by simp), heap_alloc_new]
  have b2 : V.heap[w.heap.size + 1]? = some (.cells Q.toArray 43 (0, 0)) := by rw [hV, show w.heap.size + 1 = (w.alloc (.cells P.toArray 43)).heap.size by simp, heap_alloc_new]
  have c32 : V.cell? ⟨w.heap.size, 32, none⟩ = some (.int .u8 (x.hops : Int)) := box_cell b1 (h.tail 0)
  have c33 : V.cell? ⟨w.heap.size, 33, none⟩ = some (.bool x.alert) := box_cell b1 (h.tail 1)
  have c34 : V.cell? ⟨w.heap.size, 34, none⟩ = some (.bool x.is) := box_cell b1 (h.tail 2)
  have c35 : V.cell? ⟨w.heap.size, 35, none⟩ = some (.int .u32 (x.id : Int)) := box_cell b1 (h.tail 3)
  have c36 : V.cell? ⟨w.heap.size, 36, none⟩ = some (.int .u16 (x.off : Int)) := box_cell b1 (h.tail 4)
  have c37 : V.cell? ⟨w.heap.size, 37, none⟩ = some (.bool x.more) := box_cell b1 (h.tail 5)
  have c38 : V.cell? ⟨w.heap.size, 38, none⟩ = some (.int .u8 (x.next : Int)) := box_cell b1 (h.tail 6)
  have c39 : V.cell? ⟨w.heap.size, 39, none⟩ = some (.slice A x.body.length c) := box_cell b1 (h.tail 7)
  have d32 : V.cell? ⟨w.heap.size + 1, 32, none⟩ = some (.int .u8 (x.hops : Int)) := box_cell b2 (k.tail 0)
  have d33 : V.cell? ⟨w.heap.size + 1, 33, none⟩ = some (.bool x.alert) := box_cell b2 (k.tail 1)
  have d34 : V.cell? ⟨w.heap.size + 1, 34, none⟩ = some (.bool x.is) := box_cell b2 (k.tail 2)
  have d35 : V.cell? ⟨w.heap.size + 1, 35, none⟩ = some (.int .u32 (x.id : Int)) := box_cell b2 (k.tail 3)
  have d36 : V.cell? ⟨w.heap.size + 1, 36, none⟩ = some (.int .u16 (x.off : Int)) := box_cell b2 (k.tail 4)
  have d37 : V.cell? ⟨w.heap.size + 1, 37, none⟩ = some (.bool x.more) := box_cell b2 (k.tail 5)
  have d38 : V.cell? ⟨w.heap.size + 1, 38, none⟩ = some (.int .u8 (x.next : Int)) := box_cell b2 (k.tail 6)
  have d39 : V.cell? ⟨w.heap.size + 1, 39, none⟩ = some (.slice A2 x.body.length c2) := box_cell b2 (k.tail 7)
  have HR1 := Lib.hid (h.rs (row_of b1))
  have HR2 := Lib.hid (k.rs (row_of b2))
  have HE := Lib.hid (same57 V (hb.below hal) (kb.below hal) hl)
  have HAL := Lib.hid hal
  have H36 := Lib.hid size36
  have HL1 : Hid ((row8 x.src).length = 16) := Lib.hid (by rw [row8_length, h.ok.src])
  have HL2 : Hid ((row8 x.dst).length = 16) := Lib.hid (by rw [row8_length, h.ok.dst])
  have q1 := fun W => eq36t h.ok.src8 h.ok.src W
  have q2 := fun W => eq36t h.ok.dst8 h.ok.dst W
  have q3 := fun W => eq40t x.is x.more (x.id : Int) (x.off : Int) W
  obtain ⟨n, hn⟩ : ∃ n, n = x.body.length := ⟨_, rfl⟩
  rw [← hn] at HE c39 d39
  obtain ⟨p, hp⟩ : ∃ p, p = w.heap.size := ⟨_, rfl⟩
  obtain ⟨q, hq⟩ : ∃ q, q = w.heap.size + 1 := ⟨_, rfl⟩
  rw [← hp] at c32 c33 c34 c35 c36 c37 c38 c39 HR1
  rw [← hq] at d32 d33 d34 d35 d36 d37 d38 d39 HR2
  clear h k hb kb hal b1 b2 hn hl
  go_enter Try.func18, Try.ntmps18
  go_upto_region 1 with (fail)
  rw [← hV, ← hq, ← hp]
  clear hV hp hq
  obtain ⟨S, hS⟩ : ∃ S, S = row8 x.src := ⟨_, rfl⟩
  obtain ⟨D, hD⟩ : ∃ S, S = row8 x.dst := ⟨_, rfl⟩
  rw [← hS] at HR1 HR2 HL1 q1
  rw [← hD] at HR1 HR2 HL2 q2
  clear hS hD
  go_wp2_with (first | (refine wpList_load_mid rfl 36 (.tmp 5) ?ho p 0 ?hx S _ ?hr Try.underlying36 rfl ?hi ?_; (case ho => with_reducible rfl); (case hx => rfl); (case hr => exact HR1.out.1); (case hi => rw [HL1.out]; exact H36.out)) | (refine wpList_load_mid rfl 36 (.tmp 7) ?ho q 0 ?hx S _ ?hr Try.underlying36 rfl ?hi ?_; (case ho => with_reducible rfl); (case hx => rfl); (case hr => exact HR2.out.1); (case hi => rw [HL1.out]; exact H36.out)) | (refine wpList_load_mid_w ?hw 36 (.tmp 11) ?ho p 16 ?hx D _ ?hr Try.underlying36 rfl ?hi ?_; (case ho => with_reducible rfl); (case hx => rfl); (case hw => rfl); (case hr => exact HR1.out.2); (case hi => rw [HL2.out]; exact H36.out)) | (refine wpList_load_mid_w ?hw 36 (.tmp 13) ?ho q 16 ?hx D _ ?hr Try.underlying36 rfl ?hi ?_; (case ho => with_reducible rfl); (case hx => rfl); (case hw => rfl); (case hr => exact HR2.out.2); (case hi => rw [HL2.out]; exact H36.out)))
  refine (HE.out).mono ?_
  rintro e w2 ⟨rfl, j, rfl⟩
  have HBT : Hid ((x.body == x.body) = true) := Lib.hid (by simp)
  go_wp2_with fail
  go_ret
  exact ⟨rfl, HAL.out.trans ⟨rfl, rfl, rfl, Nat.le_refl _, fun _ _ => rfl⟩⟩
end Go.Proofs.Ytjldcblklbikaaa
