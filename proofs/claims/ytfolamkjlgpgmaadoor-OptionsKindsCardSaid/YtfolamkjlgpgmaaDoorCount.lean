/- How much is read of an option: the walk. No condition but that the bytes are bytes. (Printed by gCount.py.) -/
import Derived.Test.YtfolamkjlgpgmaaDoorTellV
namespace Go.Proofs.YtfolamkjlgpgmaaDoor
open Go.RowKit
set_option linter.unusedVariables false
set_option linter.unusedSimpArgs false
/-- how many calls read something -/
def b2n (b : Bool) : Nat := if b then 1 else 0
def countR (kd : Nat) (l : List Nat) : Nat := b2n (decide (l.length = 6 ∧ (kd == 1 || kd == 2) = true)) + b2n (decide (l.length = 30 ∧ (kd == 3 && decide (num1 l 0 1 ≤ 128)) = true)) + b2n (decide (l.length = 6 ∧ (kd == 5) = true)) + b2n (isSrv kd l)
set_option maxRecDepth 100000 in
set_option maxHeartbeats 4000000 in
theorem reads45 {kd : Nat} {A : Option Addr} {c : Nat} {l : List Nat} (w : World) (h : Bs w w.heap.size A c l) (hl : l.length ≤ 1000000000) (h256 : ∀ x ∈ l, x < 256) :
    Calls Tryd.prog 45 #[.agg #[.int .u8 (kd : Int), .slice A l.length c]] w fun e w' => e = .returned (.int .i64 (countR kd l : Nat)) ∧ Below w.heap.size w w' := by
  have h2 := heap_alloc_new w (.cells #[.int .u8 (kd : Int), .slice A l.length c] 41)
  have hb2 : Below w.heap.size w (w.alloc (.cells #[.int .u8 (kd : Int), .slice A l.length c] 41)) := (Below.refl _ _).alloc (Nat.le_refl _) _
  obtain ⟨W, hW⟩ : ∃ W, W = w.alloc (.cells #[.int .u8 (kd : Int), .slice A l.length c] 41) := ⟨_, rfl⟩
  rw [← hW] at hb2 h2
  obtain ⟨q, hq⟩ : ∃ q, q = w.heap.size := ⟨_, rfl⟩
  rw [← hq] at h2
  have HQ := Lib.hid h2; have HB := Lib.hid hb2; have HBS := Lib.hid h; have HLL := Lib.hid hl; have H256 := Lib.hid h256
  obtain ⟨b1, e1⟩ : ∃ b, decide (l.length = 6 ∧ (kd == 1 || kd == 2) = true) = b := ⟨_, rfl⟩
  obtain ⟨b2, e2⟩ : ∃ b, decide (l.length = 30 ∧ (kd == 3 && decide (num1 l 0 1 ≤ 128)) = true) = b := ⟨_, rfl⟩
  obtain ⟨b3, e3⟩ : ∃ b, decide (l.length = 6 ∧ (kd == 5) = true) = b := ⟨_, rfl⟩
  obtain ⟨b4, e4⟩ : ∃ b, isSrv kd l = b := ⟨_, rfl⟩
  have EB1 := Lib.hid e1; have EB2 := Lib.hid e2; have EB3 := Lib.hid e3; have EB4 := Lib.hid e4
  have HR : countR kd l = b2n b1 + b2n b2 + b2n b3 + b2n b4 := by unfold countR; rw [e1, e2, e3, e4]
  rw [HR]
  obtain ⟨n, hn⟩ : ∃ n, l.length = n := ⟨_, rfl⟩
  have HN := Lib.hid hn
  rw [hn] at HQ hW ⊢
  have hlt : q < W.heap.size := lt_of_blk h2
  clear h2 hb2 h hl h256 e1 e2 e3 e4 HR hn
  go_enter Tryd.func45, Tryd.ntmps45
  go_upto_region 2 with (fail)
  rw [← hW, ← hq]
  clear hW
  clear hq
  have HC := Lib.hid (mac74 (kd := kd) W (HBS.out.below HB.out |>.mono HB.out.size) HLL.out)
  obtain ⟨G, eG⟩ : ∃ G, G = (if l.length = 6 ∧ (kd == 1 || kd == 2) = true then macC l else #[.int .u8 0, .int .u8 0, .int .u8 0, .int .u8 0, .int .u8 0, .int .u8 0]) := ⟨_, rfl⟩
  have hGs : G.size = 6 := by rw [eG]; split <;> rfl
  have hG1 : G.all (·.oneCell') = true := by rw [eG]; split; simp [macC, Value.oneCell']; simp [Value.oneCell']
  have HGS : Hid ((Tryd.prog.info? 49).map (·.size) = some G.size) := Lib.hid (by rw [hGs]; kernel_rfl)
  have HG := Lib.hid hGs; have HG1 := Lib.hid hG1
  rw [← eG] at HC
  have c0 := cell_blk HQ.out 0
  have c1 := cell_blk HQ.out 1
  simp only [List.getElem?_toArray, List.getElem?_cons_zero, List.getElem?_cons_succ] at c0 c1
  rw [EB1.out, HN.out] at HC
  clear eG hGs hG1
  go_wp2_with fail
  refine (HC.out).mono ?_
  rintro e w3 ⟨rfl, hb⟩
  have hn3 := heap_alloc_new w3 (.cells #[.int .u8 0, .int .u8 0, .int .u8 0, .int .u8 0, .int .u8 0, .int .u8 0] 49)
  have t3 := Turned.setRow hn3 G
  have hb4 : Below W.heap.size W ((w3.alloc (.cells #[.int .u8 0, .int .u8 0, .int .u8 0, .int .u8 0, .int .u8 0, .int .u8 0] 49)).setRow w3.heap.size G) := hb.trans (((Below.refl _ _).alloc (Nat.le_refl _) _ |>.trans (t3.below (Nat.le_refl _))).mono hb.size)
  have HN3 := Lib.hid hn3
  have HQ4 := Lib.hid ((hb4.block _ (lt_of_blk HQ.out)).trans HQ.out)
  have HB4 := Lib.hid (HB.out.trans (hb4.mono HB.out.size))
  clear hn3 t3 hb4 hb c0 c1 HQ HB HC
  go_upto_region 3 with (refine wpList_store_row rfl 49 _ _ rfl w3.heap.size G rfl rfl 49 _ HN3.out HGS.out ?hold HG1.out ?_)
  case hold => rw [HG.out]; rfl
  obtain ⟨W1, hW⟩ : ∃ W1, W1 = (w3.alloc (.cells #[.int .u8 0, .int .u8 0, .int .u8 0, .int .u8 0, .int .u8 0, .int .u8 0] 49)).setRow w3.heap.size G := ⟨_, rfl⟩
  rw [← hW] at HQ4 HB4 ⊢
  clear hW HN3 HG HG1 HGS
  have HQ := HQ4; have HB := HB4
  clear HQ4 HB4
  obtain ⟨W, hW⟩ : ∃ W, W = W1 := ⟨_, rfl⟩
  subst hW
  have HC := Lib.hid (pre75 (kd := kd) W (HBS.out.below HB.out |>.mono HB.out.size) HLL.out H256.out)
  obtain ⟨G, eG⟩ : ∃ G, G = (if l.length = 30 ∧ (kd == 3 && decide (num1 l 0 1 ≤ 128)) = true then preC l else #[.int .u8 0, .int .u8 0, .int .u8 0, .int .u8 0, .int .u8 0, .int .u8 0, .int .u8 0, .int .u8 0, .int .u8 0, .int .u8 0, .int .u8 0, .int .u8 0, .int .u8 0, .int .u8 0, .int .u8 0, .int .u8 0, .int .u8 0, .bool false, .bool false, .int .u32 0, .int .u32 0]) := ⟨_, rfl⟩
  have hGs : G.size = 21 := by rw [eG]; split <;> rfl
  have hG1 : G.all (·.oneCell') = true := by rw [eG]; split; simp [preC, Value.oneCell']; simp [Value.oneCell']
  have HGS : Hid ((Tryd.prog.info? 56).map (·.size) = some G.size) := Lib.hid (by rw [hGs]; kernel_rfl)
  have HG := Lib.hid hGs; have HG1 := Lib.hid hG1
  rw [← eG] at HC
  have c0 := cell_blk HQ.out 0
  have c1 := cell_blk HQ.out 1
  simp only [List.getElem?_toArray, List.getElem?_cons_zero, List.getElem?_cons_succ] at c0 c1
  rw [EB2.out, HN.out] at HC
  clear eG hGs hG1
  go_wp2_with fail
  refine (HC.out).mono ?_
  rintro e w3 ⟨rfl, hb⟩
  have hn3 := heap_alloc_new w3 (.cells #[.int .u8 0, .int .u8 0, .int .u8 0, .int .u8 0, .int .u8 0, .int .u8 0, .int .u8 0, .int .u8 0, .int .u8 0, .int .u8 0, .int .u8 0, .int .u8 0, .int .u8 0, .int .u8 0, .int .u8 0, .int .u8 0, .int .u8 0, .bool false, .bool false, .int .u32 0, .int .u32 0] 56)
  have t3 := Turned.setRow hn3 G
  have hb4 : Below W.heap.size W ((w3.alloc (.cells #[.int .u8 0, .int .u8 0, .int .u8 0, .int .u8 0, .int .u8 0, .int .u8 0, .int .u8 0, .int .u8 0, .int .u8 0, .int .u8 0, .int .u8 0, .int .u8 0, .int .u8 0, .int .u8 0, .int .u8 0, .int .u8 0, .int .u8 0, .bool false, .bool false, .int .u32 0, .int .u32 0] 56)).setRow w3.heap.size G) := hb.trans (((Below.refl _ _).alloc (Nat.le_refl _) _ |>.trans (t3.below (Nat.le_refl _))).mono hb.size)
  have HN3 := Lib.hid hn3
  have HQ4 := Lib.hid ((hb4.block _ (lt_of_blk HQ.out)).trans HQ.out)
  have HB4 := Lib.hid (HB.out.trans (hb4.mono HB.out.size))
  clear hn3 t3 hb4 hb c0 c1 HQ HB HC
  go_upto_region 4 with (refine wpList_store_row rfl 56 _ _ rfl w3.heap.size G rfl rfl 56 _ HN3.out HGS.out ?hold HG1.out ?_)
  case hold => rw [HG.out]; rfl
  obtain ⟨W2, hW⟩ : ∃ W2, W2 = (w3.alloc (.cells #[.int .u8 0, .int .u8 0, .int .u8 0, .int .u8 0, .int .u8 0, .int .u8 0, .int .u8 0, .int .u8 0, .int .u8 0, .int .u8 0, .int .u8 0, .int .u8 0, .int .u8 0, .int .u8 0, .int .u8 0, .int .u8 0, .int .u8 0, .bool false, .bool false, .int .u32 0, .int .u32 0] 56)).setRow w3.heap.size G := ⟨_, rfl⟩
  rw [← hW] at HQ4 HB4 ⊢
  clear hW HN3 HG HG1 HGS
  have HQ := HQ4; have HB := HB4
  clear HQ4 HB4
  obtain ⟨W, hW⟩ : ∃ W, W = W2 := ⟨_, rfl⟩
  subst hW
  have HC := Lib.hid (mtu76 (kd := kd) W (HBS.out.below HB.out |>.mono HB.out.size) HLL.out H256.out)
  obtain ⟨x, ex⟩ : ∃ x, x = (if l.length = 6 ∧ (kd == 5) = true then num1 l 2 4 else 0 : Nat) := ⟨_, rfl⟩
  rw [← ex, EB3.out, HN.out] at HC
  have c0 := cell_blk HQ.out 0
  have c1 := cell_blk HQ.out 1
  simp only [List.getElem?_toArray, List.getElem?_cons_zero, List.getElem?_cons_succ] at c0 c1
  clear ex
  go_wp2_with fail
  refine (HC.out).mono ?_
  rintro e w3 ⟨rfl, hb⟩
  have HQ4 := Lib.hid ((hb.block _ (lt_of_blk HQ.out)).trans HQ.out)
  have HB4 := Lib.hid (HB.out.trans (hb.mono HB.out.size))
  clear c0 c1 HC hb
  have HC := Lib.hid (srv77 (kd := kd) w3 (HBS.out.below HB4.out |>.mono HB4.out.size) HLL.out H256.out EB4.out)
  rw [HN.out] at HC
  have c0 := cell_blk HQ4.out 0
  have c1 := cell_blk HQ4.out 1
  simp only [List.getElem?_toArray, List.getElem?_cons_zero, List.getElem?_cons_succ] at c0 c1
  go_wp2_with fail
  refine (HC.out).mono ?_
  rintro e w5 ⟨hb, hP⟩
  have HB5 := Lib.hid (HB4.out.trans (hb.mono HB4.out.size))
  clear hb c0 c1 HC
  obtain ⟨x5, A5, n5, k5, rfl⟩ : ∃ (x5 : Int) (A5 : Option Addr) (n5 k5 : Nat), e = .returned (.tuple #[.int .u32 x5, .slice A5 n5 k5, .bool b4]) := by
    rcases hP with ⟨rfl, rfl⟩ | ⟨rfl, A, k, rfl, -⟩
    · exact ⟨_, _, _, _, rfl⟩
    · exact ⟨_, _, _, _, rfl⟩
  clear hP
  cases b1 <;> cases b2 <;> cases b3 <;> cases b4
  all_goals
    go_wp2_with fail
    go_ret
    exact ⟨rfl, HB5.out⟩
end Go.Proofs.YtfolamkjlgpgmaaDoor
