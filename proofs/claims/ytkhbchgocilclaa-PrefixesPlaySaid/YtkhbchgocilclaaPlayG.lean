/- The document's Learn, whole. No condition but that the numbers fit. -/
import Derived.Test.YtkhbchgocilclaaPlayU
import Derived.Test.YtkhbchgocilclaaPlayF
namespace Go.Proofs.Ytkhbchgocilclaa
open Go.RowKit
set_option linter.unusedVariables false
set_option linter.unusedSimpArgs false
def Info.pk (ii : Info) : PKey := keyOfP (masked ii.a ii.n) ii.n
def refLearn (now : Nat) (ii : Info) (L : List Ent) : List Ent × Bool := if tellB ii then refLearnL ii.pk (ii.until_ now) (decide (0 < ii.v)) L else (L, false)
theorem pre_key {p : Nat → Nat} {n : Nat} (hp : ∀ i, i < 16 → p i < 256) (hn : n < 256) : preCells (adrOf (keyOfP p n)) (bitsOf (keyOfP p n)) = preCells p n := by
  obtain ⟨h1, h2⟩ := key_parts (y := keyOfP p n) hp hn rfl
  rw [h2]
  unfold preCells
  have e : adrL (adrOf (keyOfP p n)) = adrL p := by
    have := congrArg Array.toList (adrCells_congr h1)
    simpa [adrCells] using this
  rw [e]
theorem still {base mk cap : Nat} {p : Option Addr} {L : List Ent} {w w' : World} (hV : RefV base mk p cap L w) (hb : Below w.heap.size w w') : RefTurned base mk L w w' :=
  ⟨⟨p, cap, hV.step hb⟩, hb.os, hb.tape, hb.output, hb.size, fun k hk _ => hb.block k hk⟩
/-- the two boxes -/
structure LBox (base mk cap B : Nat) (p : Option Addr) (ii : Info) (L : List Ent) (w wr : World) : Prop where
  hi : wr.heap[B]? = some (.cells ii.cells 28 (0, 0))
  hp : wr.heap[B + 1]? = some (.cells (preCells ii.a ii.n) 25 (0, 0))
  below : Below w.heap.size w wr
theorem LBox.step {base mk cap B : Nat} {p : Option Addr} {ii : Info} {L : List Ent} {w wr w2 : World} (h : LBox base mk cap B p ii L w wr) (hb : Below wr.heap.size wr w2) : LBox base mk cap B p ii L w w2 :=
  ⟨(hb.block _ (lt_of_blk h.hi)).trans h.hi, (hb.block _ (lt_of_blk h.hp)).trans h.hp, h.below.trans (hb.mono h.below.size)⟩
set_option maxRecDepth 100000 in
set_option maxHeartbeats 20000000 in
theorem learn16 {base mk cap now : Nat} {p : Option Addr} {L : List Ent} {w : World} (hV : RefV base mk p cap L w) (hlen : L.length ≤ 8) (hbase : base ≤ w.heap.size) (ii : Info) (ok : ii.Ok) (hnow : now < 18446744073709551616) :
    Calls Try.prog 16 #[.pointer (some ⟨mk, 0, none⟩), .int .u64 (now : Int), .agg ii.cells] w fun e w' => e = .returned (.bool (refLearn now ii L).2) ∧ RefTurned base mk (refLearn now ii L).1 w w' := by
  have h1 := heap_alloc_new w (.cells ii.cells 28)
  have hB1 : Below w.heap.size w (w.alloc (.cells ii.cells 28)) := (Below.refl _ _).alloc (Nat.le_refl _) _
  have hz1 : (w.alloc (.cells ii.cells 28)).heap.size = w.heap.size + 1 := by simp
  have hnew : ((w.alloc (.cells ii.cells 28)).alloc (.cells #[.int .u8 0, .int .u8 0, .int .u8 0, .int .u8 0, .int .u8 0, .int .u8 0, .int .u8 0, .int .u8 0, .int .u8 0, .int .u8 0, .int .u8 0, .int .u8 0, .int .u8 0, .int .u8 0, .int .u8 0, .int .u8 0, .int .u8 0] 25)).heap[w.heap.size + 1]? = some (.cells #[.int .u8 0, .int .u8 0, .int .u8 0, .int .u8 0, .int .u8 0, .int .u8 0, .int .u8 0, .int .u8 0, .int .u8 0, .int .u8 0, .int .u8 0, .int .u8 0, .int .u8 0, .int .u8 0, .int .u8 0, .int .u8 0, .int .u8 0] 25 (0, 0)) := by
    have := heap_alloc_new (w.alloc (.cells ii.cells 28)) (.cells #[.int .u8 0, .int .u8 0, .int .u8 0, .int .u8 0, .int .u8 0, .int .u8 0, .int .u8 0, .int .u8 0, .int .u8 0, .int .u8 0, .int .u8 0, .int .u8 0, .int .u8 0, .int .u8 0, .int .u8 0, .int .u8 0, .int .u8 0] 25)
    rwa [hz1] at this
  have h2 : ((w.alloc (.cells ii.cells 28)).alloc (.cells #[.int .u8 0, .int .u8 0, .int .u8 0, .int .u8 0, .int .u8 0, .int .u8 0, .int .u8 0, .int .u8 0, .int .u8 0, .int .u8 0, .int .u8 0, .int .u8 0, .int .u8 0, .int .u8 0, .int .u8 0, .int .u8 0, .int .u8 0] 25)).heap[w.heap.size]? = some (.cells ii.cells 28 (0, 0)) := (((Below.refl _ _).alloc (Nat.le_refl _) _ : Below (w.alloc (.cells ii.cells 28)).heap.size (w.alloc (.cells ii.cells 28)) ((w.alloc (.cells ii.cells 28)).alloc (.cells #[.int .u8 0, .int .u8 0, .int .u8 0, .int .u8 0, .int .u8 0, .int .u8 0, .int .u8 0, .int .u8 0, .int .u8 0, .int .u8 0, .int .u8 0, .int .u8 0, .int .u8 0, .int .u8 0, .int .u8 0, .int .u8 0, .int .u8 0] 25))).block _ (lt_of_blk h1)).trans h1
  have hB2 : Below w.heap.size w ((w.alloc (.cells ii.cells 28)).alloc (.cells #[.int .u8 0, .int .u8 0, .int .u8 0, .int .u8 0, .int .u8 0, .int .u8 0, .int .u8 0, .int .u8 0, .int .u8 0, .int .u8 0, .int .u8 0, .int .u8 0, .int .u8 0, .int .u8 0, .int .u8 0, .int .u8 0, .int .u8 0] 25)) := hB1.alloc (by simp) _
  have t6 := Turned.setRow hnew (preL ii.a ii.n).toArray
  have hX : LBox base mk cap w.heap.size p ii L w (((w.alloc (.cells ii.cells 28)).alloc (.cells #[.int .u8 0, .int .u8 0, .int .u8 0, .int .u8 0, .int .u8 0, .int .u8 0, .int .u8 0, .int .u8 0, .int .u8 0, .int .u8 0, .int .u8 0, .int .u8 0, .int .u8 0, .int .u8 0, .int .u8 0, .int .u8 0, .int .u8 0] 25)).setRow (w.heap.size + 1) (preL ii.a ii.n).toArray) := ⟨t6.keep h2 (by omega), t6.get (lt_of_blk hnew), hB2.trans (t6.below (by omega))⟩
  have HRI := Lib.hid (range_of_L (range_L h1))
  have hsz : 17 = (preL ii.a ii.n).toArray.size := by simp [preL_length]
  have HS := Lib.hid hsz; have HN := Lib.hid hnew; have HX := Lib.hid hX; have HV := Lib.hid hV
  have c17 : (((w.alloc (.cells ii.cells 28)).alloc (.cells #[.int .u8 0, .int .u8 0, .int .u8 0, .int .u8 0, .int .u8 0, .int .u8 0, .int .u8 0, .int .u8 0, .int .u8 0, .int .u8 0, .int .u8 0, .int .u8 0, .int .u8 0, .int .u8 0, .int .u8 0, .int .u8 0, .int .u8 0] 25)).setRow (w.heap.size + 1) (preL ii.a ii.n).toArray).cell? ⟨w.heap.size, 17, none⟩ = some (.bool ii.on) := by rw [cell_blk hX.hi]; exact ii.get.1
  have c16 := seen_p hX.hp
  have HR2 := Lib.hid (range_pre hX.hp)
  have ca : (((w.alloc (.cells ii.cells 28)).alloc (.cells #[.int .u8 0, .int .u8 0, .int .u8 0, .int .u8 0, .int .u8 0, .int .u8 0, .int .u8 0, .int .u8 0, .int .u8 0, .int .u8 0, .int .u8 0, .int .u8 0, .int .u8 0, .int .u8 0, .int .u8 0, .int .u8 0, .int .u8 0] 25)).setRow (w.heap.size + 1) (preL ii.a ii.n).toArray).cell? ⟨w.heap.size + 1, 0, none⟩ = some (.int .u8 (ii.a 0 : Int)) := by rw [cell_blk hX.hp]; unfold preCells; rw [List.getElem?_toArray, List.getElem?_append_left (by rw [adrL_length]; omega), adrL_at _ (by omega)]
  clear h1 hB1 hz1 hnew h2 hB2 t6 hX hsz hV
  cases ht : tellB ii with
  | false =>
    have e0 : refLearn now ii L = (L, false) := by unfold refLearn; rw [ht]; rfl
    have HE := Lib.hid e0; clear e0
    rcases tell_false ht with q1 | ⟨q1, q2⟩ | ⟨q1, q2, q3⟩ | ⟨q1, q2, q3, q4⟩
    · rw [q1] at c17
      clear ht q1 hnow hbase hlen
      go_enter Try.func16, Try.ntmps16
      go_wp2_with (first | (refine wpList_store_row rfl 25 _ _ rfl (w.heap.size + 1) (preL ii.a ii.n).toArray rfl rfl 25 _ HN.out (by rw [← HS.out]; kernel_rfl) HS.out (all_oneCell_toArray (preL_one _ _)) ?_) | (refine wpList_load_mid rfl 25 _ rfl w.heap.size 0 rfl (preL ii.a ii.n) _ HRI.out Try.underlying25 rfl (info25 _ _) ?_))
      go_ret
      exact ⟨by rw [HE.out]; rfl, by rw [HE.out]; exact still HV.out HX.out.below⟩
    · rw [q1] at c17
      have t1 : decide ((128 : Int) < ii.n) = true := by simp; omega
      clear ht q1 hnow hbase hlen
      go_enter Try.func16, Try.ntmps16
      go_wp2_with (first | (refine wpList_store_row rfl 25 _ _ rfl (w.heap.size + 1) (preL ii.a ii.n).toArray rfl rfl 25 _ HN.out (by rw [← HS.out]; kernel_rfl) HS.out (all_oneCell_toArray (preL_one _ _)) ?_) | (refine wpList_load_mid rfl 25 _ rfl w.heap.size 0 rfl (preL ii.a ii.n) _ HRI.out Try.underlying25 rfl (info25 _ _) ?_))
      go_ret
      exact ⟨by rw [HE.out]; rfl, by rw [HE.out]; exact still HV.out HX.out.below⟩
    · rw [q1] at c17
      have t1 : decide ((128 : Int) < ii.n) = false := by simp; omega
      clear ht q1 hnow hbase hlen
      go_enter Try.func16, Try.ntmps16
      go_wp2_with (first | (refine wpList_store_row rfl 25 _ _ rfl (w.heap.size + 1) (preL ii.a ii.n).toArray rfl rfl 25 _ HN.out (by rw [← HS.out]; kernel_rfl) HS.out (all_oneCell_toArray (preL_one _ _)) ?_) | (refine wpList_load_mid rfl 25 _ rfl w.heap.size 0 rfl (preL ii.a ii.n) _ HRI.out Try.underlying25 rfl (info25 _ _) ?_) | (refine wpList_load_mid_g rfl 23 _ rfl (w.heap.size + 1) 0 rfl (adrL ii.a) _ HR2.out Try.underlying23 rfl (info23 _) ?_))
      refine (link30 ii.a _ ok.a).mono ?_
      rw [q3]
      rintro e w4 ⟨rfl, b4⟩
      have HX4 := Lib.hid (HX.out.step b4)
      clear HX b4 HR2 HN HRI c17 c16 ca
      go_wp2_with fail
      go_ret
      exact ⟨by rw [HE.out]; rfl, by rw [HE.out]; exact still HV.out HX4.out.below⟩
    · rw [q1] at c17
      have t1 : decide ((128 : Int) < ii.n) = false := by simp; omega
      have q5 : ii.a 0 = 255 := by unfold manyB at q4; simpa using q4
      clear ht q1 hnow hbase hlen
      go_enter Try.func16, Try.ntmps16
      go_wp2_with (first | (refine wpList_store_row rfl 25 _ _ rfl (w.heap.size + 1) (preL ii.a ii.n).toArray rfl rfl 25 _ HN.out (by rw [← HS.out]; kernel_rfl) HS.out (all_oneCell_toArray (preL_one _ _)) ?_) | (refine wpList_load_mid rfl 25 _ rfl w.heap.size 0 rfl (preL ii.a ii.n) _ HRI.out Try.underlying25 rfl (info25 _ _) ?_) | (refine wpList_load_mid_g rfl 23 _ rfl (w.heap.size + 1) 0 rfl (adrL ii.a) _ HR2.out Try.underlying23 rfl (info23 _) ?_))
      refine (link30 ii.a _ ok.a).mono ?_
      rw [q3]
      rintro e w4 ⟨rfl, b4⟩
      have X4 := HX.out.step b4
      have ca4 : w4.cell? ⟨w.heap.size + 1, 0, none⟩ = some (.int .u8 255) := by rw [cell_blk X4.hp]; unfold preCells; rw [List.getElem?_toArray, List.getElem?_append_left (by rw [adrL_length]; omega), adrL_at _ (by omega), q5]; rfl
      have HX4 := Lib.hid X4
      clear HX b4 HR2 HN HRI c17 c16 ca X4 q5
      go_wp2_with fail
      go_ret
      exact ⟨by rw [HE.out]; rfl, by rw [HE.out]; exact still HV.out HX4.out.below⟩
  | true =>
    have e0 : refLearn now ii L = refLearnL ii.pk (ii.until_ now) (decide (0 < ii.v)) L := by unfold refLearn; rw [ht]; rfl
    rw [e0]; clear e0
    obtain ⟨q1, q2, q3, q4⟩ := tell_true ht
    rw [q1] at c17
    have t1 : decide ((128 : Int) < ii.n) = false := by simp; omega
    have q5 : ¬ ii.a 0 = 255 := by unfold manyB at q4; simpa using q4
    have HQ2 := Lib.hid q2; have HNW := Lib.hid hnow; have HBS := Lib.hid hbase; have HLN := Lib.hid hlen
    clear ht q1 q2 hnow hbase hlen
    go_enter Try.func16, Try.ntmps16
    go_wp2_with (first | (refine wpList_store_row rfl 25 _ _ rfl (w.heap.size + 1) (preL ii.a ii.n).toArray rfl rfl 25 _ HN.out (by rw [← HS.out]; kernel_rfl) HS.out (all_oneCell_toArray (preL_one _ _)) ?_) | (refine wpList_load_mid rfl 25 _ rfl w.heap.size 0 rfl (preL ii.a ii.n) _ HRI.out Try.underlying25 rfl (info25 _ _) ?_) | (refine wpList_load_mid_g rfl 23 _ rfl (w.heap.size + 1) 0 rfl (adrL ii.a) _ HR2.out Try.underlying23 rfl (info23 _) ?_))
    refine (link30 ii.a _ ok.a).mono ?_
    rw [q3]
    rintro e w4 ⟨rfl, b4⟩
    have X4 := HX.out.step b4
    have ca4 : w4.cell? ⟨w.heap.size + 1, 0, none⟩ = some (.int .u8 (ii.a 0 : Int)) := by rw [cell_blk X4.hp]; unfold preCells; rw [List.getElem?_toArray, List.getElem?_append_left (by rw [adrL_length]; omega), adrL_at _ (by omega)]
    have t5 : ((ii.a 0 : Int) == 255) = false := by simp; omega
    have c16 := seen_p X4.hp
    have HR4 := Lib.hid (range_pre X4.hp)
    have HX4 := Lib.hid X4
    clear HX b4 HR2 HN HRI c17 ca X4 q5 q3 q4 HS
    obtain ⟨B, hB⟩ : ∃ B, B = w.heap.size := ⟨_, rfl⟩
    rw [← hB] at ca4 c16 HR4 HX4 ⊢
    have NB := Lib.hid hB; clear hB
    go_wp2_with (first | (refine wpList_load_mid rfl 23 _ rfl (B + 1) 0 rfl (adrL ii.a) _ HR4.out Try.underlying23 rfl (info23 _) ?_))
    rw [show wrap64 (ii.n : Int) = (ii.n : Int) from by have := ok.n; unfold wrap64; omega]
    refine (masked31 ii.a ii.n _ ok.a HQ2.out).mono ?_
    rintro e w5 ⟨rfl, b5⟩
    have X5 := HX4.out.step b5
    have T4 := Lib.hid (there_blk X5.hp (n := 16) (by simp [preCells, adrL_length]))
    have hsz2 : (adrCells (masked ii.a ii.n)).size = 16 := adrCells_size _
    have hi23 : (Try.prog.info? 23).map (·.size) = some (adrCells (masked ii.a ii.n)).size := by rw [hsz2]; kernel_rfl
    have HI23 := Lib.hid hi23; have HSZ2 := Lib.hid hsz2; have HX5 := Lib.hid X5
    clear HX4 HR4 b5 hsz2 hi23 X5 c16 ca4 t5 t1
    rename_i K5 aK K6 a6
    have HK := Lib.hid aK
    clear aK
    go_wp2_with (first | (refine wpList_store_mid rfl 23 _ _ rfl (B + 1) 0 (adrCells (masked ii.a ii.n)) rfl rfl (by rw [HSZ2.out]; exact T4.out) HI23.out (adrCells_one _) ?_))
    have t5 := Turned.setCells (adrL (masked ii.a ii.n)) 0 _ w5 HX5.out.hp
    rw [putAt_pre] at t5
    refine HK.out _ _ ?_
    have hi := t5.keep HX5.out.hi (show B ≠ B + 1 by omega)
    have hpk := t5.get (lt_of_blk HX5.out.hp)
    rw [← pre_key (p := masked ii.a ii.n) (fun j hj => top_lt (ok.a j hj) _) ok.n] at hpk
    have hb6 : Below w.heap.size w (w5.setCells (B + 1) 0 (adrL (masked ii.a ii.n))) := HX5.out.below.trans (t5.below (by rw [NB.out]; omega))
    have HI : LInv base mk cap B (B + 1) p ii ii.pk L (.slice none 0 0) [] w (w5.setCells (B + 1) 0 (adrL (masked ii.a ii.n))) :=
      ⟨HV.out, hb6, hpk, hi, World.ownsRow_nil _ _ _ _, by simp [Value.ownBlock], by simp [Value.ownBlock]⟩
    refine until16 hi ok HNW.out ?_
    intro v42 v43 v44 v45 v46 v47 v48 v49 v50 v51 v52 v53 v54 v55 v56 v57 v58 v59 v60 v61 v62 v63
    exact rest16 HI HLN.out HBS.out
end Go.Proofs.Ytkhbchgocilclaa
