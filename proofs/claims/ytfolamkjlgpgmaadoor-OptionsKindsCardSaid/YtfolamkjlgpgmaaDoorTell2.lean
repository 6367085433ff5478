/- An option read by kind: an address of the link, a prefix: the walks. (Printed by gTell2.py.) -/
import Derived.Test.YtfolamkjlgpgmaaDoorTold
import Derived.Test.YtfolamkjlgpgmaaDoorMade
namespace Go.Proofs.YtfolamkjlgpgmaaDoor
open Go.RowKit
set_option linter.unusedVariables false
set_option linter.unusedSimpArgs false
set_option maxRecDepth 100000 in
set_option maxHeartbeats 4000000 in
theorem tell74 {kd : Nat} {A : Option Addr} {c : Nat} {l : List Nat} {C : Array Value} {r : Bool} (w : World) (h : Bs w w.heap.size A c l) (hl : l.length ≤ 1000000000)
    (hG : ∀ (w0 : World) (q : Nat) (v : Value), l.length = 6 → Gives 6 w0 q kd v l C r 86) (hC : C.size = 6) (hC1 : C.all (·.oneCell') = true) :
    Calls Tryd.prog 74 #[.agg #[.int .u8 (kd : Int), .slice A l.length c]] w fun e w' => e = .returned (.tuple #[.agg (if l.length = 6 ∧ r = true then C else #[.int .u8 0, .int .u8 0, .int .u8 0, .int .u8 0, .int .u8 0, .int .u8 0]), .bool (decide (l.length = 6 ∧ r = true))]) ∧ Below w.heap.size w w' := by
  obtain ⟨hb2, h2, h3⟩ := two_new w (.cells #[.int .u8 (kd : Int), .slice A l.length c] 41) (.cells #[.int .u8 0, .int .u8 0, .int .u8 0, .int .u8 0, .int .u8 0, .int .u8 0] 49)
  obtain ⟨V, hV⟩ : ∃ V, V = (w.alloc (.cells #[.int .u8 (kd : Int), .slice A l.length c] 41)).alloc (.cells #[.int .u8 0, .int .u8 0, .int .u8 0, .int .u8 0, .int .u8 0, .int .u8 0] 49) := ⟨_, rfl⟩
  rw [← hV] at hb2 h2 h3
  have HT := Lib.hid (told85 (A := A) (c := c) (l := l) (C := C) (r := r) V h2 ((h.below hb2).mono hb2.size) hl (fun w0 => hG w0 w.heap.size _) hC hC1)
  obtain ⟨G, eG⟩ : ∃ G, G = (if l.length = 6 ∧ r = true then C else #[.int .u8 0, .int .u8 0, .int .u8 0, .int .u8 0, .int .u8 0, .int .u8 0]) := ⟨_, rfl⟩
  have hGs : G.size = 6 := by rw [eG]; split; exact hC; rfl
  have hG1 : G.all (·.oneCell') = true := by rw [eG]; split; exact hC1; simp [Value.oneCell']
  have HGS : Hid ((Tryd.prog.info? 49).map (·.size) = some G.size) := Lib.hid (by rw [hGs]; kernel_rfl)
  have HG := Lib.hid hGs; have HG1 := Lib.hid hG1
  obtain ⟨b, eb⟩ : ∃ b, b = decide (l.length = 6 ∧ r = true) := ⟨_, rfl⟩
  rw [← eG, ← eb] at HT ⊢
  obtain ⟨n, hn⟩ : ∃ n, l.length = n := ⟨_, rfl⟩
  rw [hn] at HT h2 hV ⊢
  have c1 := cell_blk h2 1
  simp only [List.getElem?_toArray, List.getElem?_cons_zero, List.getElem?_cons_succ] at c1
  have HB := Lib.hid hb2
  have H3 := Lib.hid h3
  have hlt3 := lt_of_blk h3
  clear h hG hC hC1 eG hGs hG1 eb hn hb2 h2 h3 hl
  go_enter Tryd.func74, Tryd.ntmps74
  go_wp2_with fail
  rw [← hV]
  clear hV
  refine (HT.out).mono ?_
  rintro e w3 ⟨rfl, hb⟩
  have HB3 := Lib.hid (HB.out.trans (hb.mono HB.out.size))
  have H33 := Lib.hid ((hb.block _ hlt3).trans H3.out)
  clear hb HT H3
  go_wp2_with (refine wpList_store_row rfl 49 _ _ rfl (w.heap.size + 1) G rfl rfl 49 _ H33.out HGS.out ?hold HG1.out ?_)
  case hold => rw [HG.out]; rfl
  have t := Turned.setRow H33.out G
  refine bodyPost_ret (results_row_tmp Tryd.results74 _ _ (w.heap.size + 1) 49 _ (0, 0) _ rfl (t.get (lt_of_blk H33.out)) Tryd.underlying49 rfl HGS.out) rfl ⟨rfl, HB3.out.trans (t.below (Nat.le_succ _))⟩
set_option maxRecDepth 100000 in
set_option maxHeartbeats 4000000 in
theorem tell75 {kd : Nat} {A : Option Addr} {c : Nat} {l : List Nat} {C : Array Value} {r : Bool} (w : World) (h : Bs w w.heap.size A c l) (hl : l.length ≤ 1000000000)
    (hG : ∀ (w0 : World) (q : Nat) (v : Value), l.length = 30 → Gives 30 w0 q kd v l C r 88) (hC : C.size = 21) (hC1 : C.all (·.oneCell') = true) :
    Calls Tryd.prog 75 #[.agg #[.int .u8 (kd : Int), .slice A l.length c]] w fun e w' => e = .returned (.tuple #[.agg (if l.length = 30 ∧ r = true then C else #[.int .u8 0, .int .u8 0, .int .u8 0, .int .u8 0, .int .u8 0, .int .u8 0, .int .u8 0, .int .u8 0, .int .u8 0, .int .u8 0, .int .u8 0, .int .u8 0, .int .u8 0, .int .u8 0, .int .u8 0, .int .u8 0, .int .u8 0, .bool false, .bool false, .int .u32 0, .int .u32 0]), .bool (decide (l.length = 30 ∧ r = true))]) ∧ Below w.heap.size w w' := by
  obtain ⟨hb2, h2, h3⟩ := two_new w (.cells #[.int .u8 (kd : Int), .slice A l.length c] 41) (.cells #[.int .u8 0, .int .u8 0, .int .u8 0, .int .u8 0, .int .u8 0, .int .u8 0, .int .u8 0, .int .u8 0, .int .u8 0, .int .u8 0, .int .u8 0, .int .u8 0, .int .u8 0, .int .u8 0, .int .u8 0, .int .u8 0, .int .u8 0, .bool false, .bool false, .int .u32 0, .int .u32 0] 56)
  obtain ⟨V, hV⟩ : ∃ V, V = (w.alloc (.cells #[.int .u8 (kd : Int), .slice A l.length c] 41)).alloc (.cells #[.int .u8 0, .int .u8 0, .int .u8 0, .int .u8 0, .int .u8 0, .int .u8 0, .int .u8 0, .int .u8 0, .int .u8 0, .int .u8 0, .int .u8 0, .int .u8 0, .int .u8 0, .int .u8 0, .int .u8 0, .int .u8 0, .int .u8 0, .bool false, .bool false, .int .u32 0, .int .u32 0] 56) := ⟨_, rfl⟩
  rw [← hV] at hb2 h2 h3
  have HT := Lib.hid (told87 (A := A) (c := c) (l := l) (C := C) (r := r) V h2 ((h.below hb2).mono hb2.size) hl (fun w0 => hG w0 w.heap.size _) hC hC1)
  obtain ⟨G, eG⟩ : ∃ G, G = (if l.length = 30 ∧ r = true then C else #[.int .u8 0, .int .u8 0, .int .u8 0, .int .u8 0, .int .u8 0, .int .u8 0, .int .u8 0, .int .u8 0, .int .u8 0, .int .u8 0, .int .u8 0, .int .u8 0, .int .u8 0, .int .u8 0, .int .u8 0, .int .u8 0, .int .u8 0, .bool false, .bool false, .int .u32 0, .int .u32 0]) := ⟨_, rfl⟩
  have hGs : G.size = 21 := by rw [eG]; split; exact hC; rfl
  have hG1 : G.all (·.oneCell') = true := by rw [eG]; split; exact hC1; simp [Value.oneCell']
  have HGS : Hid ((Tryd.prog.info? 56).map (·.size) = some G.size) := Lib.hid (by rw [hGs]; kernel_rfl)
  have HG := Lib.hid hGs; have HG1 := Lib.hid hG1
  obtain ⟨b, eb⟩ : ∃ b, b = decide (l.length = 30 ∧ r = true) := ⟨_, rfl⟩
  rw [← eG, ← eb] at HT ⊢
  obtain ⟨n, hn⟩ : ∃ n, l.length = n := ⟨_, rfl⟩
  rw [hn] at HT h2 hV ⊢
  have c1 := cell_blk h2 1
  simp only [List.getElem?_toArray, List.getElem?_cons_zero, List.getElem?_cons_succ] at c1
  have HB := Lib.hid hb2
  have H3 := Lib.hid h3
  have hlt3 := lt_of_blk h3
  clear h hG hC hC1 eG hGs hG1 eb hn hb2 h2 h3 hl
  go_enter Tryd.func75, Tryd.ntmps75
  go_wp2_with fail
  rw [← hV]
  clear hV
  refine (HT.out).mono ?_
  rintro e w3 ⟨rfl, hb⟩
  have HB3 := Lib.hid (HB.out.trans (hb.mono HB.out.size))
  have H33 := Lib.hid ((hb.block _ hlt3).trans H3.out)
  clear hb HT H3
  go_wp2_with (refine wpList_store_row rfl 56 _ _ rfl (w.heap.size + 1) G rfl rfl 56 _ H33.out HGS.out ?hold HG1.out ?_)
  case hold => rw [HG.out]; rfl
  have t := Turned.setRow H33.out G
  refine bodyPost_ret (results_row_tmp Tryd.results75 _ _ (w.heap.size + 1) 56 _ (0, 0) _ rfl (t.get (lt_of_blk H33.out)) Tryd.underlying56 rfl HGS.out) rfl ⟨rfl, HB3.out.trans (t.below (Nat.le_succ _))⟩
def macC (l : List Nat) : Array Value := #[.int .u8 ((l.getD 0 0 : Nat) : Int), .int .u8 ((l.getD 1 0 : Nat) : Int), .int .u8 ((l.getD 2 0 : Nat) : Int), .int .u8 ((l.getD 3 0 : Nat) : Int), .int .u8 ((l.getD 4 0 : Nat) : Int), .int .u8 ((l.getD 5 0 : Nat) : Int)]
theorem mac74 {kd : Nat} {A : Option Addr} {c : Nat} {l : List Nat} (w : World) (h : Bs w w.heap.size A c l) (hl : l.length ≤ 1000000000) :
    Calls Tryd.prog 74 #[.agg #[.int .u8 (kd : Int), .slice A l.length c]] w fun e w' => e = .returned (.tuple #[.agg (if l.length = 6 ∧ (kd == 1 || kd == 2) = true then macC l else #[.int .u8 0, .int .u8 0, .int .u8 0, .int .u8 0, .int .u8 0, .int .u8 0]), .bool (decide (l.length = 6 ∧ (kd == 1 || kd == 2) = true))]) ∧ Below w.heap.size w w' :=
  tell74 w h hl (fun w0 q v h6 => ⟨fun W p g c hS => mac86 (m := fun i => l.getD i 0) W hS h6 (fun i hi => by
    rw [List.getD_eq_getElem?_getD, List.getElem?_eq_getElem (by omega)]; rfl) rfl⟩) rfl (by simp [macC, Value.oneCell'])
end Go.Proofs.YtfolamkjlgpgmaaDoor
