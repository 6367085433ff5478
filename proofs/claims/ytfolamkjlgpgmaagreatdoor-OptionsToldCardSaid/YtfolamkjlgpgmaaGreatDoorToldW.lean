/- What is read from an option: the walk of the law. No condition beyond that the option's bytes stand in memory. (Printed by gToldW.py.) -/
import Derived.Test.YtfolamkjlgpgmaaGreatDoorToldP
import Derived.Test.YtfolamkjlgpgmaaGreatDoorLives
import Derived.Deep.DeepCutAuto
namespace Go.Proofs.YtfolamkjlgpgmaaGreatDoor
open Go.RowKit
set_option linter.unusedVariables false
set_option linter.unusedSimpArgs false
structure TH (w : World) (p1 q3 gt kd c n : Nat) (A : Option Addr) (l : List Nat) (W : World) : Prop where
  below : Below w.heap.size w W
  b1 : W.heap[p1]? = some (.cells #[.int .u8 (kd : Int), .slice A n c] 24 (0, 0))
  b3 : W.heap[q3]? = some (.cells #[.int .u8 (kd : Int), .slice (some ⟨gt, 0, none⟩) n (n + 4)] 24 (0, 0))
  tw : W.heap[gt]? = some (.cells (row8 (twinL l 199)).toArray 5 (0, 0))
  low : w.heap.size ≤ gt
theorem TH.step {w W W' : World} {p1 q3 gt kd c n : Nat} {A : Option Addr} {l : List Nat} (h : TH w p1 q3 gt kd c n A l W) (hb : Below W.heap.size W W') : TH w p1 q3 gt kd c n A l W' :=
  ⟨h.below.trans (hb.mono h.below.size), (hb.block _ (lt_of_blk h.b1)).trans h.b1, (hb.block _ (lt_of_blk h.b3)).trans h.b3, (hb.block _ (lt_of_blk h.tw)).trans h.tw, h.low⟩
def Keep (B : List (Nat × Obj)) (W : World) : Prop := ∀ p ∈ B, W.heap[p.1]? = some p.2
theorem wpList_load_row_w {P : Program} {ops : Array Oper} {rest : List Oper} {o : Oper} {a : Act} {w : World} {Q : Exit → Act → World → Prop} (hw : Region.wanted o (yielded ops a.tmps) = true) (ty : TypeId) (x : Operand) (ho : o.op = .load ty x)
    (g : Nat) (hx : a.eval x = .pointer (some ⟨g, 0, none⟩)) (t : TypeId) (cs : Array Value) (fr : Nat × Nat) (d : TypeDesc) (hg : w.heap[g]? = some (.cells cs t fr))
    (hu : P.underlying ty = some d) (hd : (match d with | .struct _ | .array _ _ => true | _ => false) = true) (hi : (P.info? ty).map (·.size) = some cs.size)
    (h : wpList P ops Q rest (a.put o.dst (.agg cs)) w) : wpList P ops Q (o :: rest) a w :=
  wpList_step fun K hK => by rw [if_pos hw]; exact wp_load_row ty x ho g hx t cs fr d hg hu hd hi (hK _ _ h)
theorem Keep.step {B : List (Nat × Obj)} {W W' : World} (h : Keep B W) (hb : Below W.heap.size W W') : Keep B W' := fun p hp => (hb.block _ (lt_of_blk (h p hp))).trans (h p hp)
theorem Keep.add {B : List (Nat × Obj)} {W : World} {q : Nat} {o : Obj} (h : Keep B W) (hq : W.heap[q]? = some o) : Keep ((q, o) :: B) W := fun p hp => by
  rcases List.mem_cons.1 hp with rfl | hp
  · exact hq
  · exact h p hp
set_option maxRecDepth 100000 in
set_option maxHeartbeats 8000000 in
theorem optionsTold_walk {kd : Nat} {A : Option Addr} {c : Nat} {l : List Nat} (w : World) (h : Bs w w.heap.size A c l) (h256 : ∀ x ∈ l, x < 256) :
    Calls Tryz.prog 3 #[.agg #[.int .u8 (kd : Int), .slice A l.length c]] w (TruePost w) := by
  obtain ⟨M, hM, hM6, hM1, hMq⟩ := mac_fine (kd := kd) h256
  obtain ⟨I, hI, hI6, hI1, iy, ib, iu, iz, ion, iau, iy2, hIl⟩ := pre_fine (kd := kd) h256
  obtain ⟨rM, hrM⟩ : ∃ r, r = decide (l.length = 6 ∧ (kd == 1 || kd == 2) = true) := ⟨_, rfl⟩
  obtain ⟨rI, hrI⟩ : ∃ r, r = decide (l.length = 30 ∧ (kd == 3 && decide (num1 l 0 1 ≤ 128)) = true) := ⟨_, rfl⟩
  obtain ⟨xU, hxU⟩ : ∃ r, r = (if l.length = 6 ∧ (kd == 5) = true then num1 l 2 4 else 0 : Nat) := ⟨_, rfl⟩
  obtain ⟨rU, hrU⟩ : ∃ r, r = decide (l.length = 6 ∧ (kd == 5) = true) := ⟨_, rfl⟩
  have HM1 := Lib.hid hM1; have HI1 := Lib.hid hI1
  have HMS : Hid ((Tryz.prog.info? 28).map (·.size) = some M.size) := Lib.hid (by rw [hM6]; kernel_rfl)
  have HIS : Hid ((Tryz.prog.info? 37).map (·.size) = some I.size) := Lib.hid (by rw [hI6]; kernel_rfl)
  have HMZ : Hid (M.size = (#[.int .u8 0, .int .u8 0, .int .u8 0, .int .u8 0, .int .u8 0, .int .u8 0] : Array Value).size) := Lib.hid (by rw [hM6]; rfl)
  have HIZ : Hid (I.size = (#[.int .u8 0, .int .u8 0, .int .u8 0, .int .u8 0, .int .u8 0, .int .u8 0, .int .u8 0, .int .u8 0, .int .u8 0, .int .u8 0, .int .u8 0, .int .u8 0, .int .u8 0, .int .u8 0, .int .u8 0, .int .u8 0, .int .u8 0, .bool false, .bool false, .int .u32 0, .int .u32 0] : Array Value).size) := Lib.hid (by rw [hI6]; rfl)
  have HMQ := Lib.hid hMq; have HIY := Lib.hid iy2; have HIL := Lib.hid hIl
  obtain ⟨V, hV⟩ : ∃ V, V = w.alloc (.cells #[.int .u8 (kd : Int), .slice A l.length c] 24) := ⟨_, rfl⟩
  have hbV : Below w.heap.size w V := by rw [hV]; exact (Below.refl _ _).alloc (Nat.le_refl _) _
  have b1 : V.heap[w.heap.size]? = some (.cells #[.int .u8 (kd : Int), .slice A l.length c] 24 (0, 0)) := by rw [hV, heap_alloc_new]
  obtain ⟨n, hn⟩ : ∃ n, l.length = n := ⟨_, rfl⟩
  have HN := Lib.hid hn
  obtain ⟨p1, hp1⟩ : ∃ p1, p1 = w.heap.size := ⟨_, rfl⟩
  rw [← hp1, hn] at b1
  rw [hn] at hV ⊢
  have HB1 := Lib.hid b1; have HBV := Lib.hid hbV; have HP1 := Lib.hid hp1
  have c0 := cell_blk b1 0
  have c1 := cell_blk b1 1
  simp only [List.getElem?_toArray, List.getElem?_cons_zero, List.getElem?_cons_succ] at c0 c1
  have HL := Lib.hid (lives8 V)
  by_cases hgreat : 3000 < n
  · have tg : (3000 : Int) < n := by omega
    clear b1 hbV hM hI hM6 hI6 hM1 hI1 hMq hIl iy2 hrM hrI hxU hrU hn
    go_enter Tryz.func3, Tryz.ntmps3
    go_upto_region 1 with (fail)
    rw [← hV, ← hp1]
    clear hV hp1
    go_wp2_with fail
    refine (HL.out).mono ?_
    rintro e w2 ⟨rfl, hb⟩
    go_wp2_with fail
    go_ret
    exact ⟨rfl, HBV.out.trans (hb.mono HBV.out.size)⟩
  · have tg : ¬ (3000 : Int) < n := by omega
    have hl3 : l.length ≤ 3000 := by omega
    have HL3 := Lib.hid hl3
    have H256 := Lib.hid h256
    have HTW : Hid (∀ W, Below V.heap.size V W → Calls Tryz.prog 5 #[.slice A n c] W (TwinPost l 199 W)) := Lib.hid (fun W hW => by
      have := twin9 (c := c) W ((h.below (hbV.trans (hW.mono hbV.size))).mono (Nat.le_trans hbV.size hW.size)) (by omega)
      rwa [hn] at this)
    have BT : ∀ W p1 q3 gt, TH w p1 q3 gt kd c n A l W → Bs W W.heap.size (some ⟨gt, 0, none⟩) (n + 4) l := fun W p1 q3 gt hW => by
      have := twin_bs hW.tw (by omega)
      rwa [hn] at this
    have BA : ∀ W p1 q3 gt, TH w p1 q3 gt kd c n A l W → Bs W W.heap.size A c l := fun W p1 q3 gt hW => (h.below hW.below).mono hW.below.size
    have hl9 : l.length ≤ 1000000000 := by omega
    have HC6 : Hid (∀ W p1 q3 gt, TH w p1 q3 gt kd c n A l W → Calls Tryz.prog 6 #[.agg #[.int .u8 (kd : Int), .slice (some ⟨gt, 0, none⟩) n (n + 4)]] W (fun e w' => e = .returned (.tuple #[.agg M, .bool rM]) ∧ Below W.heap.size W w')) := Lib.hid (fun W p1 q3 gt hW => by
      have := mac74 (kd := kd) W (BT W p1 q3 gt hW) hl9
      rw [← hM, ← hrM, hn] at this
      exact this)
    have HC7 : Hid (∀ W p1 q3 gt, TH w p1 q3 gt kd c n A l W → Calls Tryz.prog 7 #[.agg #[.int .u8 (kd : Int), .slice A n c]] W (fun e w' => e = .returned (.tuple #[.agg M, .bool rM]) ∧ Below W.heap.size W w')) := Lib.hid (fun W p1 q3 gt hW => by
      have := mac7 (kd := kd) W (BA W p1 q3 gt hW) hl9
      rw [← hM, ← hrM, hn] at this
      exact this)
    have HC8 : Hid (∀ W p1 q3 gt, TH w p1 q3 gt kd c n A l W → Calls Tryz.prog 8 #[.agg #[.int .u8 (kd : Int), .slice (some ⟨gt, 0, none⟩) n (n + 4)]] W (fun e w' => e = .returned (.tuple #[.agg I, .bool rI]) ∧ Below W.heap.size W w')) := Lib.hid (fun W p1 q3 gt hW => by
      have := pre75 (kd := kd) W (BT W p1 q3 gt hW) hl9 h256
      rw [← hI, ← hrI, hn] at this
      exact this)
    have HC9 : Hid (∀ W p1 q3 gt, TH w p1 q3 gt kd c n A l W → Calls Tryz.prog 9 #[.agg #[.int .u8 (kd : Int), .slice A n c]] W (fun e w' => e = .returned (.tuple #[.agg I, .bool rI]) ∧ Below W.heap.size W w')) := Lib.hid (fun W p1 q3 gt hW => by
      have := prefix9 (kd := kd) W (BA W p1 q3 gt hW) hl9 h256
      rw [← hI, ← hrI, hn] at this
      exact this)
    have HC10 : Hid (∀ W p1 q3 gt, TH w p1 q3 gt kd c n A l W → Calls Tryz.prog 10 #[.agg #[.int .u8 (kd : Int), .slice (some ⟨gt, 0, none⟩) n (n + 4)]] W (fun e w' => e = .returned (.tuple #[.int .u32 (xU : Int), .bool rU]) ∧ Below W.heap.size W w')) := Lib.hid (fun W p1 q3 gt hW => by
      have := mtu76 (kd := kd) W (BT W p1 q3 gt hW) hl9 h256
      rw [← hxU, ← hrU, hn] at this
      exact this)
    have HC11 : Hid (∀ W p1 q3 gt, TH w p1 q3 gt kd c n A l W → Calls Tryz.prog 11 #[.agg #[.int .u8 (kd : Int), .slice A n c]] W (fun e w' => e = .returned (.tuple #[.int .u32 (xU : Int), .bool rU]) ∧ Below W.heap.size W w')) := Lib.hid (fun W p1 q3 gt hW => by
      have := mtu11 (kd := kd) W (BA W p1 q3 gt hW) hl9 h256
      rw [← hxU, ← hrU, hn] at this
      exact this)
    have HC12 : Hid (∀ W p1 q3 gt, TH w p1 q3 gt kd c n A l W → Calls Tryz.prog 12 #[.agg #[.int .u8 (kd : Int), .slice (some ⟨gt, 0, none⟩) n (n + 4)]] W (ListPost W l (isSrv kd l))) := Lib.hid (fun W p1 q3 gt hW => by
      have := srv77 (kd := kd) W (BT W p1 q3 gt hW) hl9 h256 (r := isSrv kd l) rfl
      rw [hn] at this
      exact this)
    have HC13 : Hid (∀ W p1 q3 gt, TH w p1 q3 gt kd c n A l W → Calls Tryz.prog 13 #[.agg #[.int .u8 (kd : Int), .slice A n c]] W (SrvRef W l (isSrv kd l))) := Lib.hid (fun W p1 q3 gt hW => by
      have := servers13 (kd := kd) W (BA W p1 q3 gt hW) hl9 h256 (r := isSrv kd l) rfl
      rw [hn] at this
      exact this)
    have HC14 : Hid (∀ W p1 q3 gt, TH w p1 q3 gt kd c n A l W → Calls Tryz.prog 14 #[.agg #[.int .u8 (kd : Int), .slice (some ⟨gt, 0, none⟩) n (n + 4)]] W (NamesPost W kd l)) := Lib.hid (fun W p1 q3 gt hW => by
      have := dom17 (kd := kd) W (BT W p1 q3 gt hW) hl9 h256
      rw [hn] at this
      exact this)
    have HC15 : Hid (∀ W p1 q3 gt, TH w p1 q3 gt kd c n A l W → Calls Tryz.prog 15 #[.agg #[.int .u8 (kd : Int), .slice A n c]] W (NamesRef W kd l)) := Lib.hid (fun W p1 q3 gt hW => by
      have := domains15 (kd := kd) W (BA W p1 q3 gt hW) (by omega) h256
      rw [hn] at this
      exact this)
    have HLE : Hid (∀ W p1 q3 gt, TH w p1 q3 gt kd c n A l W → Calls Tryz.prog 18 #[.slice (some ⟨gt, 0, none⟩) n (n + 4), .slice A n c] W (SamePost true W)) := Lib.hid (fun W p1 q3 gt hW => by
      have := left13 W (BA W p1 q3 gt hW) hW.tw (by omega)
      rw [hn] at this
      exact this)
    have HTS : Hid (∀ W p1 q3 gt, TH w p1 q3 gt kd c n A l W → GsIn w.heap.size W.heap.size W ⟨some ⟨gt, 0, none⟩, n, n + 4, 5, 1⟩) := Lib.hid (fun W p1 q3 gt hW => ⟨by show n ≤ n + 4; omega, by show (n + 4) * 1 ≤ _; omega, .inr ⟨gt, 0, _, rfl, hW.low, lt_of_blk hW.tw, hW.tw, by show 0 + (n + 4) * 1 ≤ _; simp [row8_length, twinL_length]; omega⟩⟩)
    clear b1 hbV hM hI hM6 hI6 hM1 hI1 hMq hIl iy2 hrM hrI hxU hrU h h256 BT BA hl9 hl3 hn HL
    go_enter Tryz.func3, Tryz.ntmps3
    go_upto_region 1 with (fail)
    rw [← hV, ← hp1]
    clear hV hp1
    go_upto_region 3 with (fail)
    go_cut [3] (fun u wx => ∃ q3 gt, u = .pointer (some ⟨q3, 0, none⟩) ∧ TH w p1 q3 gt kd c n A l wx)
    case first =>
      have hB0 : Below V.heap.size V V.drew := (Below.refl _ _).drew
      have hS : V.drew.heap[p1]? = some (.cells #[.int .u8 (kd : Int), .slice A n c] 24 (0, 0)) := HB1.out
      refine wp_region_held_drew (S := fun W => W.heap[p1]? = some (.cells #[.int .u8 (kd : Int), .slice A n c] 24 (0, 0))) (by kernel_rfl) hS ?_
      clear hS
      intro HS
      refine wpAnyH_take (i := 0) (v := ?_) rfl (by kernel_rfl) (by kernel_rfl) (by kernel_rfl) (fun _ _ _ h => h) (Or.inl ⟨by go_simp, ?hy⟩) HS ?_
      case hy => intro W hW; go_simp; (try with_reducible rfl)
      try simp only [List.getElem_toArray, List.getElem_cons_zero, List.getElem_cons_succ, Act.put, List.setIfInBounds_toArray, List.set_cons_zero, List.set_cons_succ]
      refine wpAnyH_take (i := 1) (v := (.int .u8 (kd : Int))) rfl (by kernel_rfl) (by kernel_rfl) (by kernel_rfl) (fun _ _ _ h => h) (Or.inl ⟨by go_simp, fun W hW => by have d := cell_blk hW 0; simp only [List.getElem?_toArray, List.getElem?_cons_zero, List.getElem?_cons_succ] at d; go_simp⟩) HS ?_
      try simp only [List.getElem_toArray, List.getElem_cons_zero, List.getElem_cons_succ, Act.put, List.setIfInBounds_toArray, List.set_cons_zero, List.set_cons_succ]
      refine wpAnyH_take (i := 2) (v := ?_) rfl (by kernel_rfl) (by kernel_rfl) (by kernel_rfl) (fun _ _ _ h => h) (Or.inl ⟨by go_simp, ?hy⟩) HS ?_
      case hy => intro W hW; go_simp; (try with_reducible rfl)
      try simp only [List.getElem_toArray, List.getElem_cons_zero, List.getElem_cons_succ, Act.put, List.setIfInBounds_toArray, List.set_cons_zero, List.set_cons_succ]
      refine wpAnyH_take (i := 3) (v := (.slice A n c)) rfl (by kernel_rfl) (by kernel_rfl) (by kernel_rfl) (fun _ _ _ h => h) (Or.inl ⟨by go_simp, fun W hW => by have d := cell_blk hW 1; simp only [List.getElem?_toArray, List.getElem?_cons_zero, List.getElem?_cons_succ] at d; go_simp⟩) HS ?_
      try simp only [List.getElem_toArray, List.getElem_cons_zero, List.getElem_cons_succ, Act.put, List.setIfInBounds_toArray, List.set_cons_zero, List.set_cons_succ]
      refine wpAnyH_ready (rs := [4, 6]) (by kernel_rfl) (by simp) ?_
      refine AllReadyH.cons rfl (fun K hK => ?_) (AllReadyH.cons rfl (fun K hK => ?_) AllReadyH.nil)
      · rw [if_pos (by kernel_rfl)]
        simp only [List.getElem_toArray, List.getElem_cons_zero, List.getElem_cons_succ]
        go_simp
        refine (HTW.out _ hB0).mono ?_
        rintro e w2 ⟨rfl, htw, hb⟩
        have hb2 : Below V.heap.size V w2 := hB0.trans (hb.mono hB0.size)
        have HB2 := Lib.hid hb2; have HTWN := Lib.hid htw; have HBB := Lib.hid hb
        rw [HN.out]
        obtain ⟨gt, hgt⟩ : ∃ g, g = V.drew.heap.size := ⟨_, rfl⟩
        rw [← hgt] at HTWN ⊢
        have HGT := Lib.hid hgt
        clear htw hb hgt
        go_simp
        refine hK.out _ _ ((hb2.block _ (lt_of_blk HB1.out)).trans HB1.out) (fun HS => ?_)
        clear hK hb2
        try simp only [List.getElem_toArray, List.getElem_cons_zero, List.getElem_cons_succ, Act.put, List.setIfInBounds_toArray, List.set_cons_zero, List.set_cons_succ]
        refine wpAnyH_take (i := 5) (v := (.agg #[.int .u8 (kd : Int), .slice (some ⟨gt, 0, none⟩) n (n + 4)])) rfl (by kernel_rfl) (by kernel_rfl) (by kernel_rfl) (fun _ _ _ h => h) (Or.inl ⟨by go_simp, fun W hW => by go_simp⟩) HS ?_
        try simp only [List.getElem_toArray, List.getElem_cons_zero, List.getElem_cons_succ, Act.put, List.setIfInBounds_toArray, List.set_cons_zero, List.set_cons_succ]
        refine wpAnyH_ready (rs := [6]) (by kernel_rfl) (by simp) ?_
        refine AllReadyH.cons rfl (fun K hK => ?_) AllReadyH.nil
        rw [if_pos (by kernel_rfl)]
        simp only [List.getElem_toArray, List.getElem_cons_zero, List.getElem_cons_succ]
        have HA := HS
        have hal : Below w2.heap.size w2 (w2.alloc (.cells #[.int .u8 0, .slice none 0 0] 24)) := (Below.refl _ _).alloc (Nat.le_refl _) _
        go_simp
        refine hK.out _ _ ((hal.block _ (lt_of_blk HS)).trans HS) (fun HS => ?_)
        clear hK HA
        try simp only [List.getElem_toArray, List.getElem_cons_zero, List.getElem_cons_succ, Act.put, List.setIfInBounds_toArray, List.set_cons_zero, List.set_cons_succ]
        refine wpAnyH_ready (rs := [7]) (by kernel_rfl) (by simp) ?_
        refine AllReadyH.cons rfl (fun K hK => ?_) AllReadyH.nil
        rw [if_pos (by kernel_rfl)]
        simp only [List.getElem_toArray, List.getElem_cons_zero, List.getElem_cons_succ]
        have HF : Hid (Below w2.heap.size w2 (w2.alloc (.cells #[.int .u8 (kd : Int), .slice (some ⟨gt, 0, none⟩) n (n + 4)] 24))) := Lib.hid ((Below.refl _ _).alloc (Nat.le_refl _) _)
        go_simp
        refine hK.out _ _ ((HF.out.block _ (lt_of_blk ((HB2.out.block _ (lt_of_blk HB1.out)).trans HB1.out))).trans ((HB2.out.block _ (lt_of_blk HB1.out)).trans HB1.out)) (fun HS => ?_)
        clear hK
        refine wpAnyH_done (by kernel_rfl) ?_ _
        go_wp2_with fail
        go_meet
        case rel => exact ⟨w2.heap.size, gt, rfl, HBV.out.trans ((HB2.out.trans (HF.out.mono HB2.out.size)).mono HBV.out.size), ((HB2.out.trans (HF.out.mono HB2.out.size)).block _ (lt_of_blk HB1.out)).trans HB1.out, heap_alloc_new w2 _, (HF.out.block _ (lt_of_blk HTWN.out)).trans HTWN.out, by rw [HGT.out]; exact HBV.out.size⟩
      · rw [if_pos (by kernel_rfl)]
        simp only [List.getElem_toArray, List.getElem_cons_zero, List.getElem_cons_succ]
        have hal : Below V.heap.size V (V.drew.alloc (.cells #[.int .u8 0, .slice none 0 0] 24)) := hB0.alloc (Nat.le_refl _) _
        have hz := heap_alloc_new V.drew (.cells #[.int .u8 0, .slice none 0 0] 24)
        have HZ := Lib.hid hz; have HAL := Lib.hid hal
        go_simp
        refine hK.out _ _ ((hal.block _ (lt_of_blk HB1.out)).trans HB1.out) (fun HS => ?_)
        clear hK hz hal
        try simp only [List.getElem_toArray, List.getElem_cons_zero, List.getElem_cons_succ, Act.put, List.setIfInBounds_toArray, List.set_cons_zero, List.set_cons_succ]
        refine wpAnyH_ready (rs := [4]) (by kernel_rfl) (by simp) ?_
        refine AllReadyH.cons rfl (fun K hK => ?_) AllReadyH.nil
        rw [if_pos (by kernel_rfl)]
        simp only [List.getElem_toArray, List.getElem_cons_zero, List.getElem_cons_succ]
        go_simp
        refine (HTW.out _ HAL.out).mono ?_
        rintro e w2 ⟨rfl, htw, hb⟩
        have hb2 : Below V.heap.size V w2 := HAL.out.trans (hb.mono HAL.out.size)
        have hz2 : w2.heap[V.heap.size]? = some (.cells #[.int .u8 0, .slice none 0 0] 24 (0, 0)) := (hb.block _ (by simp)).trans HZ.out
        have HB2 := Lib.hid hb2; have HTWN := Lib.hid htw; have HZ2 := Lib.hid hz2
        rw [HN.out]
        obtain ⟨gt, hgt⟩ : ∃ g, g = (V.drew.alloc (.cells #[.int .u8 0, .slice none 0 0] 24)).heap.size := ⟨_, rfl⟩
        rw [← hgt] at HTWN ⊢
        have HGT : Hid (gt = V.heap.size + 1) := Lib.hid (by rw [hgt]; simp)
        clear htw hb hgt hz2
        go_simp
        refine hK.out _ _ ((hb2.block _ (lt_of_blk HB1.out)).trans HB1.out) (fun HS => ?_)
        clear hK hb2
        try simp only [List.getElem_toArray, List.getElem_cons_zero, List.getElem_cons_succ, Act.put, List.setIfInBounds_toArray, List.set_cons_zero, List.set_cons_succ]
        refine wpAnyH_take (i := 5) (v := (.agg #[.int .u8 (kd : Int), .slice (some ⟨gt, 0, none⟩) n (n + 4)])) rfl (by kernel_rfl) (by kernel_rfl) (by kernel_rfl) (fun _ _ _ h => h) (Or.inl ⟨by go_simp, fun W hW => by go_simp⟩) HS ?_
        try simp only [List.getElem_toArray, List.getElem_cons_zero, List.getElem_cons_succ, Act.put, List.setIfInBounds_toArray, List.set_cons_zero, List.set_cons_succ]
        refine wpAnyH_ready (rs := [7]) (by kernel_rfl) (by simp) ?_
        refine AllReadyH.cons rfl (fun K hK => ?_) AllReadyH.nil
        rw [if_pos (by kernel_rfl)]
        simp only [List.getElem_toArray, List.getElem_cons_zero, List.getElem_cons_succ]
        have z0 := cell_blk HZ2.out 0
        have z1 := cell_blk HZ2.out 1
        have y0 := frozen_blk HZ2.out 0
        have y1 := frozen_blk HZ2.out 1
        simp only [List.getElem?_toArray, List.getElem?_cons_zero, List.getElem?_cons_succ] at z0 z1
        have t := two_set HZ2.out (v0 := .int .u8 (kd : Int)) (v1 := .slice (some ⟨gt, 0, none⟩) n (n + 4))
        have HTT := Lib.hid t
        have HF := Lib.hid (t.below (B := V.heap.size) (Nat.le_refl _))
        have HKE := Lib.hid (t.keep ((HB2.out.block _ (lt_of_blk HB1.out)).trans HB1.out) (by have := lt_of_blk HB1.out; omega))
        have HKG := Lib.hid (t.keep HTWN.out (by rw [HGT.out]; omega))
        clear t
        go_simp
        refine hK.out _ _ HKE.out (fun HS => ?_)
        clear hK z0 z1 y0 y1
        refine wpAnyH_done (by kernel_rfl) ?_ _
        go_wp2_with fail
        go_meet
        case rel => exact ⟨V.heap.size, gt, rfl, HBV.out.trans ((HB2.out.trans HF.out).mono HBV.out.size), HKE.out, HTT.out.get (lt_of_blk HZ2.out), HKG.out, by rw [HGT.out]; have := HBV.out.size; omega⟩
    case rest =>
      obtain ⟨q3, gt, rfl, hT⟩ := hcut
      have HT := Lib.hid hT
      clear hT
      go_upto_region 4 with (fail)
      have d0 := cell_blk HT.out.b3 0
      have d1 := cell_blk HT.out.b3 1
      simp only [List.getElem?_toArray, List.getElem?_cons_zero, List.getElem?_cons_succ] at d0 d1
      have HC := Lib.hid (HC6.out _ _ _ _ HT.out)
      go_wp2_with fail
      refine (HC.out).mono ?_
      rintro e w2 ⟨rfl, hb⟩
      have HT2 := Lib.hid (HT.out.step hb)
      have HKP : Hid (Keep [] w2) := Lib.hid (fun p hp => by cases hp)
      have h9 := heap_alloc_new w2 (.cells #[.int .u8 0, .int .u8 0, .int .u8 0, .int .u8 0, .int .u8 0, .int .u8 0] 28)
      have H9 := Lib.hid h9
      clear d0 d1 HC h9 hb HT
      go_upto_region 5 with (first | (refine wpList_store_row rfl 28 (.tmp 4) (.tmp 43) ?ho w2.heap.size M ?hx ?hy 28 _ H9.out HMS.out (by first | exact HMZ.out | exact HMZ.out.symm) HM1.out ?_; (case ho => with_reducible rfl); (case hx => rfl); (case hy => rfl)))
      obtain ⟨W0, hW0⟩ : ∃ W, W = (w2.alloc (.cells #[.int .u8 0, .int .u8 0, .int .u8 0, .int .u8 0, .int .u8 0, .int .u8 0] 28)).setRow w2.heap.size M := ⟨_, rfl⟩
      obtain ⟨q4, hq⟩ : ∃ q, q = w2.heap.size := ⟨_, rfl⟩
      have t := Turned.setRow H9.out M
      rw [← hW0] at t ⊢
      have hs9 : Below w2.heap.size w2 W0 := ((Below.refl _ _).alloc (Nat.le_refl _) _).trans (t.below (Nat.le_refl _))
      have HT := Lib.hid (HT2.out.step hs9)
      have hB := t.get (by simp)
      rw [← hq] at hB ⊢
      have HKP3 := Lib.hid ((HKP.out.step hs9).add hB)
      clear HKP
      have HKP := HKP3
      clear HKP3 t hs9 hB hq hW0 H9 HT2
      have d0 := cell_blk HT.out.b1 0
      have d1 := cell_blk HT.out.b1 1
      simp only [List.getElem?_toArray, List.getElem?_cons_zero, List.getElem?_cons_succ] at d0 d1
      have HC := Lib.hid (HC7.out _ _ _ _ HT.out)
      go_wp2_with fail
      refine (HC.out).mono ?_
      rintro e w2 ⟨rfl, hb⟩
      have HT2 := Lib.hid (HT.out.step hb)
      have HKP2 := Lib.hid (HKP.out.step hb)
      clear HKP
      have HKP := HKP2
      clear HKP2
      have h9 := heap_alloc_new w2 (.cells #[.int .u8 0, .int .u8 0, .int .u8 0, .int .u8 0, .int .u8 0, .int .u8 0] 28)
      have H9 := Lib.hid h9
      clear d0 d1 HC h9 hb HT
      go_upto_region 6 with (first | (refine wpList_store_row rfl 28 (.tmp 6) (.tmp 48) ?ho w2.heap.size M ?hx ?hy 28 _ H9.out HMS.out (by first | exact HMZ.out | exact HMZ.out.symm) HM1.out ?_; (case ho => with_reducible rfl); (case hx => rfl); (case hy => rfl)))
      obtain ⟨W1, hW1⟩ : ∃ W, W = (w2.alloc (.cells #[.int .u8 0, .int .u8 0, .int .u8 0, .int .u8 0, .int .u8 0, .int .u8 0] 28)).setRow w2.heap.size M := ⟨_, rfl⟩
      obtain ⟨q5, hq⟩ : ∃ q, q = w2.heap.size := ⟨_, rfl⟩
      have t := Turned.setRow H9.out M
      rw [← hW1] at t ⊢
      have hs9 : Below w2.heap.size w2 W1 := ((Below.refl _ _).alloc (Nat.le_refl _) _).trans (t.below (Nat.le_refl _))
      have HT := Lib.hid (HT2.out.step hs9)
      have hB := t.get (by simp)
      rw [← hq] at hB ⊢
      have HKP3 := Lib.hid ((HKP.out.step hs9).add hB)
      clear HKP
      have HKP := HKP3
      clear HKP3 t hs9 hB hq hW1 H9 HT2
      have d0 := cell_blk HT.out.b3 0
      have d1 := cell_blk HT.out.b3 1
      simp only [List.getElem?_toArray, List.getElem?_cons_zero, List.getElem?_cons_succ] at d0 d1
      have HC := Lib.hid (HC8.out _ _ _ _ HT.out)
      go_wp2_with fail
      refine (HC.out).mono ?_
      rintro e w2 ⟨rfl, hb⟩
      have HT2 := Lib.hid (HT.out.step hb)
      have HKP2 := Lib.hid (HKP.out.step hb)
      clear HKP
      have HKP := HKP2
      clear HKP2
      have h9 := heap_alloc_new w2 (.cells #[.int .u8 0, .int .u8 0, .int .u8 0, .int .u8 0, .int .u8 0, .int .u8 0, .int .u8 0, .int .u8 0, .int .u8 0, .int .u8 0, .int .u8 0, .int .u8 0, .int .u8 0, .int .u8 0, .int .u8 0, .int .u8 0, .int .u8 0, .bool false, .bool false, .int .u32 0, .int .u32 0] 37)
      have H9 := Lib.hid h9
      clear d0 d1 HC h9 hb HT
      go_upto_region 7 with (first | (refine wpList_store_row rfl 37 (.tmp 8) (.tmp 53) ?ho w2.heap.size I ?hx ?hy 37 _ H9.out HIS.out (by first | exact HIZ.out | exact HIZ.out.symm) HI1.out ?_; (case ho => with_reducible rfl); (case hx => rfl); (case hy => rfl)))
      obtain ⟨W2, hW2⟩ : ∃ W, W = (w2.alloc (.cells #[.int .u8 0, .int .u8 0, .int .u8 0, .int .u8 0, .int .u8 0, .int .u8 0, .int .u8 0, .int .u8 0, .int .u8 0, .int .u8 0, .int .u8 0, .int .u8 0, .int .u8 0, .int .u8 0, .int .u8 0, .int .u8 0, .int .u8 0, .bool false, .bool false, .int .u32 0, .int .u32 0] 37)).setRow w2.heap.size I := ⟨_, rfl⟩
      obtain ⟨q6, hq⟩ : ∃ q, q = w2.heap.size := ⟨_, rfl⟩
      have t := Turned.setRow H9.out I
      rw [← hW2] at t ⊢
      have hs9 : Below w2.heap.size w2 W2 := ((Below.refl _ _).alloc (Nat.le_refl _) _).trans (t.below (Nat.le_refl _))
      have HT := Lib.hid (HT2.out.step hs9)
      have hB := t.get (by simp)
      rw [← hq] at hB ⊢
      have HKP3 := Lib.hid ((HKP.out.step hs9).add hB)
      clear HKP
      have HKP := HKP3
      clear HKP3 t hs9 hB hq hW2 H9 HT2
      have d0 := cell_blk HT.out.b1 0
      have d1 := cell_blk HT.out.b1 1
      simp only [List.getElem?_toArray, List.getElem?_cons_zero, List.getElem?_cons_succ] at d0 d1
      have HC := Lib.hid (HC9.out _ _ _ _ HT.out)
      go_wp2_with fail
      refine (HC.out).mono ?_
      rintro e w2 ⟨rfl, hb⟩
      have HT2 := Lib.hid (HT.out.step hb)
      have HKP2 := Lib.hid (HKP.out.step hb)
      clear HKP
      have HKP := HKP2
      clear HKP2
      have h9 := heap_alloc_new w2 (.cells #[.int .u8 0, .int .u8 0, .int .u8 0, .int .u8 0, .int .u8 0, .int .u8 0, .int .u8 0, .int .u8 0, .int .u8 0, .int .u8 0, .int .u8 0, .int .u8 0, .int .u8 0, .int .u8 0, .int .u8 0, .int .u8 0, .int .u8 0, .bool false, .bool false, .int .u32 0, .int .u32 0] 37)
      have H9 := Lib.hid h9
      clear d0 d1 HC h9 hb HT
      go_upto_region 8 with (first | (refine wpList_store_row rfl 37 (.tmp 10) (.tmp 58) ?ho w2.heap.size I ?hx ?hy 37 _ H9.out HIS.out (by first | exact HIZ.out | exact HIZ.out.symm) HI1.out ?_; (case ho => with_reducible rfl); (case hx => rfl); (case hy => rfl)))
      obtain ⟨W3, hW3⟩ : ∃ W, W = (w2.alloc (.cells #[.int .u8 0, .int .u8 0, .int .u8 0, .int .u8 0, .int .u8 0, .int .u8 0, .int .u8 0, .int .u8 0, .int .u8 0, .int .u8 0, .int .u8 0, .int .u8 0, .int .u8 0, .int .u8 0, .int .u8 0, .int .u8 0, .int .u8 0, .bool false, .bool false, .int .u32 0, .int .u32 0] 37)).setRow w2.heap.size I := ⟨_, rfl⟩
      obtain ⟨q7, hq⟩ : ∃ q, q = w2.heap.size := ⟨_, rfl⟩
      have t := Turned.setRow H9.out I
      rw [← hW3] at t ⊢
      have hs9 : Below w2.heap.size w2 W3 := ((Below.refl _ _).alloc (Nat.le_refl _) _).trans (t.below (Nat.le_refl _))
      have HT := Lib.hid (HT2.out.step hs9)
      have hB := t.get (by simp)
      rw [← hq] at hB ⊢
      have HKP3 := Lib.hid ((HKP.out.step hs9).add hB)
      clear HKP
      have HKP := HKP3
      clear HKP3 t hs9 hB hq hW3 H9 HT2
      have d0 := cell_blk HT.out.b3 0
      have d1 := cell_blk HT.out.b3 1
      simp only [List.getElem?_toArray, List.getElem?_cons_zero, List.getElem?_cons_succ] at d0 d1
      have HC := Lib.hid (HC10.out _ _ _ _ HT.out)
      go_wp2_with fail
      refine (HC.out).mono ?_
      rintro e w2 ⟨rfl, hb⟩
      have HT2 := Lib.hid (HT.out.step hb)
      have HKP2 := Lib.hid (HKP.out.step hb)
      clear HKP HT
      have HKP := HKP2
      have HT := HT2
      clear HKP2 HT2 d0 d1 HC hb
      go_upto_region 9 with (fail)
      have d0 := cell_blk HT.out.b1 0
      have d1 := cell_blk HT.out.b1 1
      simp only [List.getElem?_toArray, List.getElem?_cons_zero, List.getElem?_cons_succ] at d0 d1
      have HC := Lib.hid (HC11.out _ _ _ _ HT.out)
      go_wp2_with fail
      refine (HC.out).mono ?_
      rintro e w2 ⟨rfl, hb⟩
      have HT2 := Lib.hid (HT.out.step hb)
      have HKP2 := Lib.hid (HKP.out.step hb)
      clear HKP HT
      have HKP := HKP2
      have HT := HT2
      clear HKP2 HT2 d0 d1 HC hb
      go_upto_region 10 with (fail)
      have K4 := Lib.hid (HKP.out (q4, .cells M 28 (0, 0)) (by simp))
      have K5 := Lib.hid (HKP.out (q5, .cells M 28 (0, 0)) (by simp))
      have K6 := Lib.hid (HKP.out (q6, .cells I 37 (0, 0)) (by simp))
      have K7 := Lib.hid (HKP.out (q7, .cells I 37 (0, 0)) (by simp))
      have eM := HMQ.out w2
      have k6 := K6.out; have k7 := K7.out; have his := HIS.out
      rw [HIL.out] at k6 k7 his
      have K6L := Lib.hid k6; have K7L := Lib.hid k7; have HISL := Lib.hid his
      clear k6 k7 his
      have eI := adr_eqIn HIY.out 9996 w2
      clear HKP
      go_upto_region 12 with (first | (refine wpList_load_row rfl 28 (.tmp 4) ?ho q4 ?hx 28 _ (0, 0) _ K4.out Tryz.underlying28 rfl HMS.out ?_; (case ho => with_reducible rfl); (case hx => rfl)) | (refine wpList_load_row rfl 28 (.tmp 6) ?ho q5 ?hx 28 _ (0, 0) _ K5.out Tryz.underlying28 rfl HMS.out ?_; (case ho => with_reducible rfl); (case hx => rfl)) | (refine wpList_load_row_w ?hw 37 (.tmp 8) ?ho q6 ?hx 37 _ (0, 0) _ K6L.out Tryz.underlying37 rfl HISL.out ?_; (case ho => with_reducible rfl); (case hw => rfl); (case hx => rfl)) | (refine wpList_load_row_w ?hw 37 (.tmp 10) ?ho q7 ?hx 37 _ (0, 0) _ K7L.out Tryz.underlying37 rfl HISL.out ?_; (case ho => with_reducible rfl); (case hw => rfl); (case hx => rfl)))
      clear K4 K5 K6 K7 K6L K7L eM eI
      have d0 := cell_blk HT.out.b3 0
      have d1 := cell_blk HT.out.b3 1
      simp only [List.getElem?_toArray, List.getElem?_cons_zero, List.getElem?_cons_succ] at d0 d1
      have HC := Lib.hid (HC12.out _ _ _ _ HT.out)
      go_wp2_with fail
      refine (HC.out).mono ?_
      rintro e w3 h3
      obtain ⟨S1, k1, rfl, hb, hk1, ho1⟩ := srvU h3
      have HT2 := Lib.hid (HT.out.step hb)
      obtain ⟨L1, hL1⟩ : ∃ L, L = srvL kd l := ⟨_, rfl⟩
      obtain ⟨m1, hm1⟩ : ∃ m, m = L1.length := ⟨_, rfl⟩
      obtain ⟨x1, hx1⟩ : ∃ x, x = srvX kd l := ⟨_, rfl⟩
      obtain ⟨r1, hr1⟩ : ∃ r, r = isSrv kd l := ⟨_, rfl⟩
      rw [← hL1, ← hm1] at ho1
      rw [← hL1, ← hm1, ← hx1, ← hr1]
      have O1 := Lib.hid (own_mono ho1 HT.out.below.size)
      have EL1 := Lib.hid hL1; have EM1 := Lib.hid hm1; have EX1 := Lib.hid hx1; have ER1 := Lib.hid hr1
      clear d0 d1 HC h3 hb ho1 hk1 hL1 hm1 hx1 hr1 HT
      have HT := HT2
      clear HT2
      go_upto_region 13 with (fail)
      have d0 := cell_blk HT.out.b1 0
      have d1 := cell_blk HT.out.b1 1
      simp only [List.getElem?_toArray, List.getElem?_cons_zero, List.getElem?_cons_succ] at d0 d1
      have HC := Lib.hid (HC13.out _ _ _ _ HT.out)
      go_wp2_with fail
      refine (HC.out).mono ?_
      rintro e w4 h3
      obtain ⟨S2, k2, rfl, hb, ho2⟩ := srvR h3
      have HT2 := Lib.hid (HT.out.step hb)
      rw [← EL1.out, ← EM1.out] at ho2
      rw [← EL1.out, ← EM1.out, ← EX1.out, ← ER1.out]
      have O2 := Lib.hid ho2
      have O1b := Lib.hid (own_below O1.out hb)
      clear d0 d1 HC h3 hb ho2 HT O1
      have HT := HT2
      have O1 := O1b
      clear HT2 O1b
      go_upto_region 14 with (fail)
      have d0 := cell_blk HT.out.b3 0
      have d1 := cell_blk HT.out.b3 1
      simp only [List.getElem?_toArray, List.getElem?_cons_zero, List.getElem?_cons_succ] at d0 d1
      have HC := Lib.hid (HC14.out _ _ _ _ HT.out)
      go_wp2_with fail
      refine (HC.out).mono ?_
      rintro e w5 h3
      obtain ⟨S3, k3, rfl, hb, hk3, ho3⟩ := domU h3
      have HT2 := Lib.hid (HT.out.step hb)
      obtain ⟨L3, hL3⟩ : ∃ L, L = domsL kd l := ⟨_, rfl⟩
      obtain ⟨m3, hm3⟩ : ∃ m, m = L3.length := ⟨_, rfl⟩
      obtain ⟨x3, hx3⟩ : ∃ x, x = domX kd l := ⟨_, rfl⟩
      obtain ⟨r3, hr3⟩ : ∃ r, r = (isDom kd l).isSome := ⟨_, rfl⟩
      rw [← hL3, ← hm3] at ho3
      rw [← hL3, ← hm3, ← hx3, ← hr3]
      have O3 := Lib.hid (own_mono ho3 HT.out.below.size)
      have EL3 := Lib.hid hL3; have EM3 := Lib.hid hm3; have EX3 := Lib.hid hx3; have ER3 := Lib.hid hr3
      have O1b := Lib.hid (own_below O1.out hb)
      have O2b := Lib.hid (own_below O2.out hb)
      clear d0 d1 HC h3 hb ho3 hk3 hL3 hm3 hx3 hr3 HT O1 O2
      have HT := HT2
      have O1 := O1b
      have O2 := O2b
      clear HT2 O1b O2b
      go_upto_region 15 with (fail)
      have d0 := cell_blk HT.out.b1 0
      have d1 := cell_blk HT.out.b1 1
      simp only [List.getElem?_toArray, List.getElem?_cons_zero, List.getElem?_cons_succ] at d0 d1
      have HC := Lib.hid (HC15.out _ _ _ _ HT.out)
      go_wp2_with fail
      refine (HC.out).mono ?_
      rintro e w6 h3
      obtain ⟨S4, k4, rfl, hb, ho4⟩ := domR h3
      have HT2 := Lib.hid (HT.out.step hb)
      rw [← EL3.out, ← EM3.out] at ho4
      rw [← EL3.out, ← EM3.out, ← EX3.out, ← ER3.out]
      have O4 := Lib.hid ho4
      have O1b := Lib.hid (own_below O1.out hb)
      have O2b := Lib.hid (own_below O2.out hb)
      have O3b := Lib.hid (own_below O3.out hb)
      clear d0 d1 HC h3 hb ho4 HT O1 O2 O3
      have HT := HT2
      have O1 := O1b
      have O2 := O2b
      have O3 := O3b
      clear HT2 O1b O2b O3b
      go_upto_region 16 with (fail)
      obtain ⟨fs1, fs2⟩ := srvL_fine (kd := kd) HL3.out H256.out
      obtain ⟨fd1, fd2⟩ := domsL_fine (kd := kd) HL3.out
      rw [← EL1.out] at fs1 fs2
      rw [← EL3.out] at fd1 fd2
      have A1 := own_adrs O1.out EM1.out.symm (by rw [EM1.out]; exact fs1)
      have A2 := own_adrs O2.out EM1.out.symm (by rw [EM1.out]; exact fs1)
      have D1 := own_doms O3.out EM3.out.symm fd1 (by rw [EM3.out]; exact fd2)
      have D2 := own_doms O4.out EM3.out.symm fd1 (by rw [EM3.out]; exact fd2)
      have hs16 := same15 (c := m1) (c2 := k2) w6 A1 A2 fs2
      rw [← EM1.out] at hs16
      have HS16 := Lib.hid hs16
      have HD17 : Hid (∀ W', (∃ j, W' = w6.drewN j) → Calls Tryz.prog 17 #[.slice S3 m3 m3, .slice S4 m3 k4] W' (SamePost true W')) := Lib.hid (fun W' hj => by
        obtain ⟨j, rfl⟩ := hj
        have := same19t (c := m3) (c2 := k4) (w6.drewN j) (D1.below (Below.drewN' _ _ j)) (D2.below (Below.drewN' _ _ j))
        rwa [← EM3.out] at this)
      have FM1 : Hid (m1 ≤ 1000000) := Lib.hid (by rw [EM1.out]; exact fs1)
      have FM3 : Hid (m3 ≤ 4000) := Lib.hid (by rw [EM3.out]; exact fd2)
      have ax1 : ((x1 : Int) != x1) = false := by simp
      have ax3 : ((x3 : Int) != x3) = false := by simp
      have ar1 : (r1 != r1) = false := by simp
      have ar3 : (r3 != r3) = false := by simp
      clear fs1 fs2 fd1 fd2 A1 A2 D1 D2 hs16 O2 O4
      go_wp2_with fail
      refine (HS16.out).mono ?_
      rintro e w7 ⟨rfl, hj7⟩
      have HC := Lib.hid (HD17.out _ hj7)
      have HB7 : Hid (Below w6.heap.size w6 w7) := Lib.hid (by obtain ⟨j, rfl⟩ := hj7; exact Below.drewN' _ _ j)
      clear HS16 HD17 hj7
      go_wp2_with fail
      refine (HC.out).mono ?_
      rintro e w8 ⟨rfl, hj8⟩
      have HB8 : Hid (Below w6.heap.size w6 w8) := Lib.hid (by obtain ⟨j, rfl⟩ := hj8; exact HB7.out.trans ((Below.drewN' _ _ j).mono HB7.out.size))
      clear HC HB7 hj8
      have HT8 := Lib.hid (HT.out.step HB8.out)
      have O1b := Lib.hid (own_below O1.out HB8.out)
      have O3b := Lib.hid (own_below O3.out HB8.out)
      clear HT O1 O3 HB8
      have HT := HT8
      have O1 := O1b
      have O3 := O3b
      clear HT8 O1b O3b
      have d1 := cell_blk HT.out.b3 1
      have e1 := cell_blk HT.out.b1 1
      simp only [List.getElem?_toArray, List.getElem?_cons_zero, List.getElem?_cons_succ] at d1 e1
      have HC := Lib.hid (HLE.out _ _ _ _ HT.out)
      go_wp2_with fail
      refine (HC.out).mono ?_
      rintro e w9 ⟨rfl, hj9⟩
      have hb9 : Below w8.heap.size w8 w9 := by obtain ⟨j, rfl⟩ := hj9; exact Below.drewN' _ _ j
      have HT8 := Lib.hid (HT.out.step hb9)
      have O1b := Lib.hid (own_below O1.out hb9)
      have O3b := Lib.hid (own_below O3.out hb9)
      clear HT O1 O3 hb9 hj9 d1 e1 HC
      have HT := HT8
      have O1 := O1b
      have O3 := O3b
      clear HT8 O1b O3b
      go_upto_region 19 with (fail)
      obtain ⟨kb, hkb⟩ : ∃ k, k = w9.heap.size := ⟨_, rfl⟩
      obtain ⟨W, hW⟩ : ∃ W, W = w9.alloc (.cells #[.slice none 0 0] 53) := ⟨_, rfl⟩
      have hal : Below w9.heap.size w9 W := by rw [hW]; exact (Below.refl _ _).alloc (Nat.le_refl _) _
      have hbk : W.heap[kb]? = some (.cells #[.slice none 0 0] 53 (0, 0)) := by rw [hW, hkb, heap_alloc_new]
      rw [← hW, ← hkb]
      have hT9 := HT.out.step hal
      have g0 := (HTS.out _ _ _ _ HT.out).step hal
      have g1 := (gs_own O1.out (by decide) FM1.out (Nat.le_refl _)).step hal
      have g2 := (gs_own O3.out (by decide) (Nat.le_trans FM3.out (by decide)) (Nat.le_refl _)).step hal
      have hlk : w.heap.size ≤ kb := by rw [hkb]; exact HT.out.below.size
      rw [← hkb] at g0 g1 g2
      have G0 := Lib.hid g0; have G1 := Lib.hid g1; have G2 := Lib.hid g2; have HLK := Lib.hid hlk
      have HBL := Lib.hid hT9.below
      have HF := Lib.hid (bytes14 (A := some ⟨gt, 0, none⟩) (n := n) (c := n + 4) (S := []) W ⟨_, hbk, World.ownsRow_nil _ _ _ _⟩ (by simp))
      have d1 := cell_blk hT9.b3 1
      simp only [List.getElem?_toArray, List.getElem?_cons_zero, List.getElem?_cons_succ] at d1
      clear hal hbk hW hkb hT9 g0 g1 g2 hlk HT O1 O3
      go_wp2_with fail
      refine (HF.out).mono ?_
      intro e w10 hp
      obtain ⟨rfl, hv, hb⟩ := book_one hp
      have HV := Lib.hid hv
      have G0b := Lib.hid (G0.out.keep hb); have G1b := Lib.hid (G1.out.keep hb); have G2b := Lib.hid (G2.out.keep hb)
      have HBLb := Lib.hid (HBL.out.trans (hb.mono HLK.out))
      have HF2 := Lib.hid (addrs20 (A := S1) (n := m1) (c := m1) w10 hv)
      clear hp hv hb HF d1 G0 G1 G2 HBL
      go_wp2_with fail
      refine (HF2.out).mono ?_
      rintro e w11 ⟨rfl, hv, hb⟩
      have G0 := Lib.hid (G0b.out.keep hb); have G1 := Lib.hid (G1b.out.keep hb); have G2 := Lib.hid (G2b.out.keep hb)
      have HBL := Lib.hid (HBLb.out.trans (hb.mono HLK.out))
      have HF := Lib.hid (texts21 (A := S3) (n := m3) (c := m3) w11 hv)
      clear hv hb HF2 G0b G1b G2b HBLb HV
      go_wp2_with fail
      refine (HF.out).mono ?_
      rintro e w12 ⟨rfl, hv, hb⟩
      have HBLb := Lib.hid (HBL.out.trans (hb.mono HLK.out))
      have HF2 := Lib.hid (apart22 w12 hv (G0.out.keep hb) (G1.out.keep hb) (G2.out.keep hb) HLK.out)
      clear hv hb HF G0 G1 G2 HBL
      go_wp2_with fail
      refine (HF2.out).mono ?_
      rintro e w13 ⟨rfl, hb⟩
      have HBL := Lib.hid (HBLb.out.trans hb)
      have HF := Lib.hid (lives8 w13)
      clear hb HF2 HBLb
      go_wp2_with fail
      refine (HF.out).mono ?_
      rintro e w14 ⟨rfl, hb⟩
      go_wp2_with fail
      go_ret
      exact ⟨rfl, HBL.out.trans (hb.mono HBL.out.size)⟩
end Go.Proofs.YtfolamkjlgpgmaaGreatDoor

