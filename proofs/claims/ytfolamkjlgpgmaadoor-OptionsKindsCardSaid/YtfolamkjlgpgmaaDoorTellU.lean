/- The greatest packet read: the walks. No condition but that the bytes are bytes. (Printed by gTellU.py.) -/
import Derived.Test.YtfolamkjlgpgmaaDoorTellP
namespace Go.Proofs.YtfolamkjlgpgmaaDoor
open Go.RowKit
set_option linter.unusedVariables false
set_option linter.unusedSimpArgs false
theorem u32_small {m : Nat} (h : m < 4294967296) : IntKind.u32.wrap (m : Int) = (m : Int) := by
  simp [IntKind.wrap, IntKind.signed, IntKind.bits]; omega
theorem pre75 {kd : Nat} {A : Option Addr} {c : Nat} {l : List Nat} (w : World) (h : Bs w w.heap.size A c l) (hl : l.length ≤ 1000000000) (h256 : ∀ x ∈ l, x < 256) :
    Calls Tryd.prog 75 #[.agg #[.int .u8 (kd : Int), .slice A l.length c]] w fun e w' => e = .returned (.tuple #[.agg (if l.length = 30 ∧ (kd == 3 && decide (num1 l 0 1 ≤ 128)) = true then preC l else #[.int .u8 0, .int .u8 0, .int .u8 0, .int .u8 0, .int .u8 0, .int .u8 0, .int .u8 0, .int .u8 0, .int .u8 0, .int .u8 0, .int .u8 0, .int .u8 0, .int .u8 0, .int .u8 0, .int .u8 0, .int .u8 0, .int .u8 0, .bool false, .bool false, .int .u32 0, .int .u32 0]), .bool (decide (l.length = 30 ∧ (kd == 3 && decide (num1 l 0 1 ≤ 128)) = true))]) ∧ Below w.heap.size w w' :=
  tell75 (kd := kd) w h hl (C := preC l) (r := (kd == 3 && decide (num1 l 0 1 ≤ 128))) (fun w0 q v h30 => ⟨fun W p g c hS => pre88 W hS h30 h256 rfl⟩) rfl (by simp [preC, Value.oneCell'])
set_option maxRecDepth 100000 in
set_option maxHeartbeats 4000000 in
theorem mtu91 {w0 : World} {q kd p g c : Nat} {v : Value} {l : List Nat} (w : World) (h : CS w0 q kd v p g c 0 l w) (hl : l.length = 6) (h256 : ∀ x ∈ l, x < 256) {r : Bool} (hr : (kd == 5) = r) :
    Calls Tryd.prog 91 #[.pointer (some ⟨p, 0, none⟩), .pointer (some ⟨q, 0, none⟩)] w fun e w' => e = .returned (.tuple #[.int .u32 (num1 l 2 4 : Nat), .bool r]) ∧ CS w0 q kd v p g c 6 l w' := by
  have HN := Lib.hid (num49_be (k := 2) w h.cut (by decide) (by decide) (by rw [hl]; decide) h256)
  have HS := Lib.hid h; have HR := Lib.hid hr; have HL := Lib.hid hl; have H256 := Lib.hid h256
  clear h hr hl h256
  unfold num1
  go_enter Tryd.func91, Tryd.ntmps91
  go_wp2_with fail
  refine (HN.out).mono ?_
  rintro e w1 ⟨rfl, k1, o1, k2⟩
  have hS1 : CS w0 q kd v p g c 2 l w1 := HS.out.turn k1 k2
  have HD := Lib.hid (hS1.step (Below.refl _ _).drew)
  clear k1 k2 hS1 HN HS
  go_wp2_with fail
  have HN := Lib.hid (num49_be (pos := 2) (k := 4) w1.drew HD.out.cut (by decide) (by decide) (by rw [HL.out]; decide) H256.out)
  have hS : ∃ pos, CS w0 q kd v p g c pos l w1.drew := ⟨_, HD.out⟩
  by_cases k5 : kd = 5
  · have t1 : ((kd : Int) == 5) = true := by simp; omega
    obtain rfl : r = true := by rw [← HR.out]; simp [k5]
    clear k5
    refine wp_region_held_drew (S := fun W => ∃ pos, CS w0 q kd v p g c pos l W) (by kernel_rfl) hS ?_
    clear hS
    intro HSS
    refine wpAnyH_take (i := 0) (v := ?_) rfl (by kernel_rfl) (by kernel_rfl) (by kernel_rfl) (fun _ _ _ h => h) (Or.inl ⟨by go_simp, ?hy⟩) HSS ?_
    case hy => intro W hW; go_simp; (try with_reducible rfl)
    try simp only [List.getElem_toArray, List.getElem_cons_zero, List.getElem_cons_succ, Act.put, List.setIfInBounds_toArray, List.set_cons_zero, List.set_cons_succ]
    refine wpAnyH_take (i := 3) (v := ?_) rfl (by kernel_rfl) (by kernel_rfl) (by kernel_rfl) (fun _ _ _ h => h) (Or.inl ⟨by go_simp, ?hy⟩) HSS ?_
    case hy => intro W hW; go_simp; (try with_reducible rfl)
    try simp only [List.getElem_toArray, List.getElem_cons_zero, List.getElem_cons_succ, Act.put, List.setIfInBounds_toArray, List.set_cons_zero, List.set_cons_succ]
    refine wpAnyH_take (i := 4) (v := ?_) rfl (by kernel_rfl) (by kernel_rfl) (by kernel_rfl) (fun _ _ _ h => h) (Or.inl ⟨by go_simp, ?hy⟩) HSS ?_
    case hy => intro W hW; obtain ⟨_, hc⟩ := hW; have c := cell_blk hc.box 0; simp only [List.getElem?_toArray, List.getElem?_cons_zero] at c; go_simp; (try with_reducible rfl)
    try simp only [List.getElem_toArray, List.getElem_cons_zero, List.getElem_cons_succ, Act.put, List.setIfInBounds_toArray, List.set_cons_zero, List.set_cons_succ]
    refine wpAnyH_take (i := 5) (v := .bool true) rfl (by kernel_rfl) (by kernel_rfl) (by kernel_rfl) (fun _ _ _ h => h) (Or.inl ⟨by go_simp, fun W hW => by go_simp⟩) HSS ?_
    try simp only [List.getElem_toArray, List.getElem_cons_zero, List.getElem_cons_succ, Act.put, List.setIfInBounds_toArray, List.set_cons_zero, List.set_cons_succ]
    refine wpAnyH_ready (rs := [1]) (by kernel_rfl) (by simp) ?_
    refine AllReadyH.cons rfl (fun K hK => ?_) AllReadyH.nil
    rw [if_pos (by kernel_rfl)]
    simp only [List.getElem_toArray, List.getElem_cons_zero, List.getElem_cons_succ]
    go_simp
    refine (HN.out).mono ?_
    rintro e w6 ⟨rfl, h1, o1, ht1⟩
    obtain ⟨b2, e2⟩ : ∃ b2, beN ((l.drop 2).take 4) = b2 := ⟨_, rfl⟩
    have E2 := Lib.hid e2
    have hb2 : b2 < 4294967296 := by rw [← e2]; exact beN_lt (k := 4) (fun x hx => H256.out x (List.mem_of_mem_drop (List.mem_of_mem_take hx))) (by rw [List.length_take]; omega)
    rw [e2]
    have hS6 : CS w0 q kd v p g c 6 l w6 := HD.out.turn h1 ht1
    have HS6 := Lib.hid hS6
    refine hK.out _ _ (⟨_, hS6⟩) (fun HSS => ?_)
    clear hK h1 ht1 hS6 HD e2 HN
    try simp only [List.getElem_toArray, List.getElem_cons_zero, List.getElem_cons_succ, Act.put, List.setIfInBounds_toArray, List.set_cons_zero, List.set_cons_succ]
    refine wpAnyH_take (i := 2) (v := .int .u32 (b2 : Int)) rfl (by kernel_rfl) (by kernel_rfl) (by kernel_rfl) (fun _ _ _ h => h) (Or.inl ⟨by go_simp, fun W hW => by go_simp; exact u32_small hb2⟩) HSS ?_
    try simp only [List.getElem_toArray, List.getElem_cons_zero, List.getElem_cons_succ, Act.put, List.setIfInBounds_toArray, List.set_cons_zero, List.set_cons_succ]
    refine wpAnyH_take (i := 6) (v := ?_) rfl (by kernel_rfl) (by kernel_rfl) (by kernel_rfl) (fun _ _ _ h => h) (Or.inl ⟨by go_simp, ?hy⟩) HSS ?_
    case hy => intro W hW; go_simp; (try with_reducible rfl)
    try simp only [List.getElem_toArray, List.getElem_cons_zero, List.getElem_cons_succ, Act.put, List.setIfInBounds_toArray, List.set_cons_zero, List.set_cons_succ]
    refine wpAnyH_take (i := 7) (v := ?_) rfl (by kernel_rfl) (by kernel_rfl) (by kernel_rfl) (fun _ _ _ h => h) (Or.inl ⟨by go_simp, ?hy⟩) HSS ?_
    case hy => intro W hW; go_simp; (try with_reducible rfl)
    try simp only [List.getElem_toArray, List.getElem_cons_zero, List.getElem_cons_succ, Act.put, List.setIfInBounds_toArray, List.set_cons_zero, List.set_cons_succ]
    refine wpAnyH_done (by kernel_rfl) ?_ _
    clear HSS
    go_wp2_with fail
    refine bodyPost_ret (v := .tuple #[.int .u32 (b2 : Int), .bool true]) ?_ rfl ?_
    · simp [results, Tryd.results91, go_sem]
      try rfl
    · exact ⟨by rw [← E2.out], HS6.out⟩
  · have t1 : ((kd : Int) == 5) = false := by simp; omega
    obtain rfl : r = false := by rw [← HR.out]; simp [k5]
    clear k5
    refine wp_region_held_drew (S := fun W => ∃ pos, CS w0 q kd v p g c pos l W) (by kernel_rfl) hS ?_
    clear hS
    intro HSS
    refine wpAnyH_take (i := 0) (v := ?_) rfl (by kernel_rfl) (by kernel_rfl) (by kernel_rfl) (fun _ _ _ h => h) (Or.inl ⟨by go_simp, ?hy⟩) HSS ?_
    case hy => intro W hW; go_simp; (try with_reducible rfl)
    try simp only [List.getElem_toArray, List.getElem_cons_zero, List.getElem_cons_succ, Act.put, List.setIfInBounds_toArray, List.set_cons_zero, List.set_cons_succ]
    refine wpAnyH_take (i := 3) (v := ?_) rfl (by kernel_rfl) (by kernel_rfl) (by kernel_rfl) (fun _ _ _ h => h) (Or.inl ⟨by go_simp, ?hy⟩) HSS ?_
    case hy => intro W hW; go_simp; (try with_reducible rfl)
    try simp only [List.getElem_toArray, List.getElem_cons_zero, List.getElem_cons_succ, Act.put, List.setIfInBounds_toArray, List.set_cons_zero, List.set_cons_succ]
    refine wpAnyH_take (i := 4) (v := ?_) rfl (by kernel_rfl) (by kernel_rfl) (by kernel_rfl) (fun _ _ _ h => h) (Or.inl ⟨by go_simp, ?hy⟩) HSS ?_
    case hy => intro W hW; obtain ⟨_, hc⟩ := hW; have c := cell_blk hc.box 0; simp only [List.getElem?_toArray, List.getElem?_cons_zero] at c; go_simp; (try with_reducible rfl)
    try simp only [List.getElem_toArray, List.getElem_cons_zero, List.getElem_cons_succ, Act.put, List.setIfInBounds_toArray, List.set_cons_zero, List.set_cons_succ]
    refine wpAnyH_take (i := 5) (v := .bool false) rfl (by kernel_rfl) (by kernel_rfl) (by kernel_rfl) (fun _ _ _ h => h) (Or.inl ⟨by go_simp, fun W hW => by go_simp⟩) HSS ?_
    try simp only [List.getElem_toArray, List.getElem_cons_zero, List.getElem_cons_succ, Act.put, List.setIfInBounds_toArray, List.set_cons_zero, List.set_cons_succ]
    refine wpAnyH_ready (rs := [1]) (by kernel_rfl) (by simp) ?_
    refine AllReadyH.cons rfl (fun K hK => ?_) AllReadyH.nil
    rw [if_pos (by kernel_rfl)]
    simp only [List.getElem_toArray, List.getElem_cons_zero, List.getElem_cons_succ]
    go_simp
    refine (HN.out).mono ?_
    rintro e w6 ⟨rfl, h1, o1, ht1⟩
    obtain ⟨b2, e2⟩ : ∃ b2, beN ((l.drop 2).take 4) = b2 := ⟨_, rfl⟩
    have E2 := Lib.hid e2
    have hb2 : b2 < 4294967296 := by rw [← e2]; exact beN_lt (k := 4) (fun x hx => H256.out x (List.mem_of_mem_drop (List.mem_of_mem_take hx))) (by rw [List.length_take]; omega)
    rw [e2]
    have hS6 : CS w0 q kd v p g c 6 l w6 := HD.out.turn h1 ht1
    have HS6 := Lib.hid hS6
    refine hK.out _ _ (⟨_, hS6⟩) (fun HSS => ?_)
    clear hK h1 ht1 hS6 HD e2 HN
    try simp only [List.getElem_toArray, List.getElem_cons_zero, List.getElem_cons_succ, Act.put, List.setIfInBounds_toArray, List.set_cons_zero, List.set_cons_succ]
    refine wpAnyH_take (i := 2) (v := .int .u32 (b2 : Int)) rfl (by kernel_rfl) (by kernel_rfl) (by kernel_rfl) (fun _ _ _ h => h) (Or.inl ⟨by go_simp, fun W hW => by go_simp; exact u32_small hb2⟩) HSS ?_
    try simp only [List.getElem_toArray, List.getElem_cons_zero, List.getElem_cons_succ, Act.put, List.setIfInBounds_toArray, List.set_cons_zero, List.set_cons_succ]
    refine wpAnyH_take (i := 6) (v := ?_) rfl (by kernel_rfl) (by kernel_rfl) (by kernel_rfl) (fun _ _ _ h => h) (Or.inl ⟨by go_simp, ?hy⟩) HSS ?_
    case hy => intro W hW; go_simp; (try with_reducible rfl)
    try simp only [List.getElem_toArray, List.getElem_cons_zero, List.getElem_cons_succ, Act.put, List.setIfInBounds_toArray, List.set_cons_zero, List.set_cons_succ]
    refine wpAnyH_take (i := 7) (v := ?_) rfl (by kernel_rfl) (by kernel_rfl) (by kernel_rfl) (fun _ _ _ h => h) (Or.inl ⟨by go_simp, ?hy⟩) HSS ?_
    case hy => intro W hW; go_simp; (try with_reducible rfl)
    try simp only [List.getElem_toArray, List.getElem_cons_zero, List.getElem_cons_succ, Act.put, List.setIfInBounds_toArray, List.set_cons_zero, List.set_cons_succ]
    refine wpAnyH_done (by kernel_rfl) ?_ _
    clear HSS
    go_wp2_with fail
    refine bodyPost_ret (v := .tuple #[.int .u32 (b2 : Int), .bool false]) ?_ rfl ?_
    · simp [results, Tryd.results91, go_sem]
      try rfl
    · exact ⟨by rw [← E2.out], HS6.out⟩
set_option maxRecDepth 100000 in
set_option maxHeartbeats 4000000 in
theorem told90 {q kd : Nat} {A : Option Addr} {c : Nat} {l : List Nat} (w : World) {v : Value} (hq : w.heap[q]? = some (.cells #[.int .u8 (kd : Int), v] 41 (0, 0))) (h : Bs w w.heap.size A c l) (hl : l.length ≤ 1000000000) (h256 : ∀ x ∈ l, x < 256) :
    Calls Tryd.prog 90 #[.slice A l.length c, .int .i64 6, .func (.func 91) #[] #[.pointer (some ⟨q, 0, none⟩)]] w fun e w' => e = .returned (.tuple #[.int .u32 ((if l.length = 6 ∧ (kd == 5) = true then num1 l 2 4 else 0 : Nat) : Int), .bool (decide (l.length = 6 ∧ (kd == 5) = true))]) ∧ Below w.heap.size w w' := by
  have HQ := Lib.hid hq; have HQL := Lib.hid (lt_of_blk hq)
  have HO := Lib.hid (of47 (c := c) w h hl)
  have H256 := Lib.hid h256
  obtain ⟨n, hn⟩ : ∃ n, l.length = n := ⟨_, rfl⟩
  have HN := Lib.hid hn
  obtain ⟨r, hr⟩ : ∃ r, (kd == 5) = r := ⟨_, rfl⟩
  have HR := Lib.hid hr
  obtain ⟨x, hx⟩ : ∃ x, num1 l 2 4 = x := ⟨_, rfl⟩
  have HX := Lib.hid hx
  rw [hn] at HO
  rw [hn, hr, hx]
  clear hq h h256 hn hr hx
  go_enter Tryd.func90, Tryd.ntmps90
  by_cases h6 : n = 6
  · subst h6
    have t0 : (((6 : Nat) : Int) != 6) = false := by decide
    go_wp2_with fail
    refine (HO.out).mono ?_
    rintro e w1 ⟨p, g, c1, rfl, k1, k2, k3, k4⟩
    have hS1 : CS w q kd v p g c1 0 l w1 := ⟨k1, (k4.block q HQL.out).trans HQ.out, k2, by have := HQL.out; omega, k4⟩
    have hm := mtu91 w1 hS1 HN.out H256.out HR.out
    rw [HX.out] at hm
    have HCL := Lib.hid hm
    clear k1 k2 k3 k4 hS1 HO hm
    go_wp2_with fail
    refine (HCL.out).mono ?_
    rintro e W ⟨rfl, hS2⟩
    have HS4 := Lib.hid hS2
    obtain ⟨Ap, hp, _⟩ := hS2.cut.at_
    rw [HN.out] at hp
    have HBAD := Lib.hid (bad51 W hp)
    have HLEFT : Hid (Calls Tryd.prog 48 #[.pointer (some ⟨p, 0, none⟩)] W fun e w' => e = .returned (.int .i64 0) ∧ W = w') := Lib.hid ((left48 W hp).mono (by
      rintro e w' ⟨rfl, rfl⟩
      exact ⟨by simp, rfl⟩))
    clear hS2 hp HCL
    cases r
    · go_wp2_with fail
      refine bodyPost_ret (v := .tuple #[.int .u32 0, .bool false]) ?_ rfl ?_
      · simp [results, Tryd.results90, go_sem]
        try rfl
      · exact ⟨rfl, HS4.out.below⟩
    · go_wp2_with fail
      refine (HBAD.out).mono ?_
      rintro e w5 ⟨rfl, rfl⟩
      go_wp2_with fail
      refine (HLEFT.out).mono ?_
      rintro e w5 ⟨rfl, rfl⟩
      go_wp2_with fail
      refine bodyPost_ret (v := .tuple #[.int .u32 (x : Int), .bool true]) ?_ rfl ?_
      · simp [results, Tryd.results90, go_sem]
        try rfl
      · exact ⟨rfl, HS4.out.below⟩
  · have t0 : ((n : Int) != 6) = true := by simp; omega
    have e1 : ¬ (n = 6 ∧ r = true) := fun h => h6 h.1
    rw [if_neg e1, decide_eq_false e1]
    go_wp2_with fail
    refine bodyPost_ret (v := .tuple #[.int .u32 0, .bool false]) ?_ rfl ?_
    · simp [results, Tryd.results90, go_sem]
      try rfl
    · exact ⟨rfl, Below.refl _ _⟩
set_option maxRecDepth 100000 in
set_option maxHeartbeats 4000000 in
theorem mtu76 {kd : Nat} {A : Option Addr} {c : Nat} {l : List Nat} (w : World) (h : Bs w w.heap.size A c l) (hl : l.length ≤ 1000000000) (h256 : ∀ x ∈ l, x < 256) :
    Calls Tryd.prog 76 #[.agg #[.int .u8 (kd : Int), .slice A l.length c]] w fun e w' => e = .returned (.tuple #[.int .u32 ((if l.length = 6 ∧ (kd == 5) = true then num1 l 2 4 else 0 : Nat) : Int), .bool (decide (l.length = 6 ∧ (kd == 5) = true))]) ∧ Below w.heap.size w w' := by
  have h2 := heap_alloc_new w (.cells #[.int .u8 (kd : Int), .slice A l.length c] 41)
  have hb2 : Below w.heap.size w (w.alloc (.cells #[.int .u8 (kd : Int), .slice A l.length c] 41)) := (Below.refl _ _).alloc (Nat.le_refl _) _
  obtain ⟨V, hV⟩ : ∃ V, V = w.alloc (.cells #[.int .u8 (kd : Int), .slice A l.length c] 41) := ⟨_, rfl⟩
  rw [← hV] at hb2 h2
  have HT := Lib.hid (told90 (A := A) (c := c) (l := l) V h2 ((h.below hb2).mono hb2.size) hl h256)
  obtain ⟨x, ex⟩ : ∃ x, x = (if l.length = 6 ∧ (kd == 5) = true then num1 l 2 4 else 0 : Nat) := ⟨_, rfl⟩
  obtain ⟨b, eb⟩ : ∃ b, b = decide (l.length = 6 ∧ (kd == 5) = true) := ⟨_, rfl⟩
  rw [← ex, ← eb] at HT ⊢
  obtain ⟨n, hn⟩ : ∃ n, l.length = n := ⟨_, rfl⟩
  rw [hn] at HT h2 hV ⊢
  have c1 := cell_blk h2 1
  simp only [List.getElem?_toArray, List.getElem?_cons_zero, List.getElem?_cons_succ] at c1
  have HB := Lib.hid hb2
  clear h ex eb hn hb2 h2 hl h256
  go_enter Tryd.func76, Tryd.ntmps76
  go_wp2_with fail
  rw [← hV]
  clear hV
  refine (HT.out).mono ?_
  rintro e w3 ⟨rfl, hb⟩
  have HB3 := Lib.hid (HB.out.trans (hb.mono HB.out.size))
  clear hb HT
  go_wp2_with fail
  refine bodyPost_ret (v := .tuple #[.int .u32 (x : Int), .bool b]) ?_ rfl ?_
  · simp [results, Tryd.results76, go_sem]
    try rfl
  · exact ⟨rfl, HB3.out⟩
end Go.Proofs.YtfolamkjlgpgmaaDoor
