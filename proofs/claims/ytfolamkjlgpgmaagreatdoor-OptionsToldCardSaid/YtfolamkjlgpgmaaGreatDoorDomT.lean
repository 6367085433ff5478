/- Several texts in one: DomT, DomW. No condition beyond those that each part names. -/
import Derived.Test.YtfolamkjlgpgmaaGreatDoorName
import Derived.Test.YtfolamkjlgpgmaaGreatDoorTellV
/- Of an option its names: the walk. No condition but that the bytes are bytes. (Printed by gDomT.py.) -/
namespace Go.Proofs.YtfolamkjlgpgmaaGreatDoor
open Go.RowKit
set_option linter.unusedVariables false
set_option linter.unusedSimpArgs false
set_option maxRecDepth 100000 in
set_option maxHeartbeats 1000000 in
theorem rest46 {p g c pos : Nat} {bs : List Nat} (w : World) (h : CutAt w p g c pos bs) :
    Calls Tryz.prog 49 #[.pointer (some ⟨p, 0, none⟩)] w fun e w' => (∃ A n k, e = .returned (.slice A n k)) ∧ CutAt w' p g c bs.length bs ∧ ∃ o, Turned p o w w' := by
  obtain ⟨A, hp, -⟩ := h.at_
  have hle := h.le
  have HBAD := Lib.hid (bad51 _ hp)
  have HT : Hid (Calls Tryz.prog 69 #[.pointer (some ⟨p, 0, none⟩), .int .i64 ((bs.length - pos : Nat) : Int)] w fun e w' => (∃ A n k, e = .returned (.slice A n k)) ∧ CutAt w' p g c bs.length bs ∧ ∃ o, Turned p o w w') := Lib.hid (by
    by_cases hl : pos < bs.length
    · refine (take78_ok (bs.length - pos) w h (by omega) (by omega)).mono ?_
      rintro e w' ⟨rfl, h1, o, h2⟩
      rw [show pos + (bs.length - pos) = bs.length by omega] at h1
      exact ⟨⟨_, _, _, rfl⟩, h1, o, h2⟩
    · obtain rfl : pos = bs.length := by omega
      rw [Nat.sub_self]
      exact take54_zero w h)
  obtain ⟨n, hn⟩ : ∃ n, bs.length - pos = n := ⟨_, rfl⟩
  rw [hn] at hp HT
  have c0 := cell_blk hp 0
  simp only [List.getElem?_toArray, List.getElem?_cons_zero, List.getElem?_cons_succ] at c0
  clear hp h hn hle
  go_enter Tryz.func49, Tryz.ntmps49
  go_wp2_with fail
  refine (HBAD.out).mono ?_
  rintro e w1 ⟨rfl, rfl⟩
  go_wp2_with fail
  refine (HT.out).mono ?_
  rintro e w2 ⟨⟨A2, n2, k2, rfl⟩, h1, o, h2⟩
  have H1 := Lib.hid h1; have H2 := Lib.hid h2
  clear h1 h2 HT
  go_wp2_with fail
  go_ret
  exact ⟨⟨_, _, _, rfl⟩, H1.out, o, H2.out⟩
set_option maxRecDepth 100000 in
set_option maxHeartbeats 1000000 in
theorem rest46_bad {p : Nat} (w : World) (h : CutBad w p) :
    Calls Tryz.prog 49 #[.pointer (some ⟨p, 0, none⟩)] w fun e w' => e = .returned (.slice none 0 0) ∧ w = w' := by
  have HBAD := Lib.hid (bad51 _ h)
  clear h
  go_enter Tryz.func49, Tryz.ntmps49
  go_wp2_with fail
  refine (HBAD.out).mono ?_
  rintro e w1 ⟨rfl, rfl⟩
  go_wp2_with fail
  go_ret
  exact ⟨rfl, rfl⟩
/-- while names are read -/
structure DL (w0 : World) (q kd : Nat) (v : Value) (p g c : Nat) (l : List Nat) (t x f : Nat) (fs : ByteArray) (pos : Nat) (acc : List (List UInt8)) (A : Option Addr) (cap : Nat) (W : World) : Prop where
  cs : CS w0 q kd v p g c pos l W
  box : W.heap[t]? = some (.cells #[.int .u32 (x : Int), .slice A acc.length cap] 87 (0, 0))
  own : W.ownsRow (t + 1) 9 1 (.slice A acc.length cap) acc.length (strs acc)
  full : W.heap[f]? = some (.cells #[.string fs] 9 (0, 0))
  tp : p < t
  tq : q < t
  tg : l ≠ [] → g < t
  tf : f < w0.heap.size
  low : w0.heap.size ≤ t
theorem DL.step {w0 W W' : World} {q kd p g c t x f pos cap : Nat} {fs : ByteArray} {v : Value} {l : List Nat} {acc : List (List UInt8)} {A : Option Addr} (h : DL w0 q kd v p g c l t x f fs pos acc A cap W) (hb : Below W.heap.size W W') : DL w0 q kd v p g c l t x f fs pos acc A cap W' :=
  ⟨h.cs.step hb, (hb.block _ (lt_of_blk h.box)).trans h.box, own_below h.own hb, (hb.block _ (lt_of_blk h.full)).trans h.full, h.tp, h.tq, h.tg, h.tf, h.low⟩
theorem DL.on {w0 W W' : World} {q kd p g c t x f pos pos' cap : Nat} {fs : ByteArray} {v : Value} {l : List Nat} {acc : List (List UInt8)} {A : Option Addr} (h : DL w0 q kd v p g c l t x f fs pos acc A cap W) (hg : W.grownBy W' (some p)) (hc : CS w0 q kd v p g c pos' l W') : DL w0 q kd v p g c l t x f fs pos' acc A cap W' := by
  have htp := h.tp; have hlow := h.cs.low; have htf := h.tf
  refine ⟨hc, (hg.block t (lt_of_blk h.box) (fun e => by cases e; omega)).trans h.box, h.own.kept hg ?_, (hg.block f (lt_of_blk h.full) (fun e => by cases e; omega)).trans h.full, h.tp, h.tq, h.tg, h.tf, h.low⟩
  cases hv : (Value.slice A acc.length cap).ownBlock with
  | none => exact .inl rfl
  | some k => right; intro e; cases e; have := (h.own.lt _ hv).1; omega
theorem DL.turn {w0 W W' : World} {q kd p g c t x f pos pos' cap : Nat} {fs : ByteArray} {v : Value} {l : List Nat} {acc : List (List UInt8)} {A : Option Addr} {o : Obj} (h : DL w0 q kd v p g c l t x f fs pos acc A cap W) (hc : CutAt W' p g c pos' l) (ht : Turned p o W W') : DL w0 q kd v p g c l t x f fs pos' acc A cap W' :=
  h.on ht.grown (h.cs.turn hc ht)
theorem DL.add {w0 W W' : World} {q kd p g c t x f pos cap cap' : Nat} {fs : ByteArray} {v : Value} {l : List Nat} {acc acc' : List (List UInt8)} {A A' : Option Addr} (h : DL w0 q kd v p g c l t x f fs pos acc A cap W) (hg : W.grownBy W' (Value.slice A acc.length cap).ownBlock)
    (ho : W'.ownsRow (t + 1) 9 1 (.slice A' acc'.length cap') acc'.length (strs acc')) :
    W'.heap[t]? = some (.cells #[.int .u32 (x : Int), .slice A acc.length cap] 87 (0, 0)) ∧ DL w0 q kd v p g c l t x f fs pos acc' A' cap' (W'.setCell ⟨t, 1, none⟩ (.slice A' acc'.length cap')) := by
  have htp := h.tp; have htq := h.tq; have htg := h.tg; have hlow := h.low; have htf := h.tf
  have hk : ∀ k, (Value.slice A acc.length cap).ownBlock = some k → t + 1 ≤ k := fun k e => (h.own.lt k e).1
  have hcs : CS w0 q kd v p g c pos l W' := h.cs.grown hg (fun k e => by
    have := hk k e
    exact ⟨by omega, fun hl => by have := htg hl; omega, by omega, by omega⟩)
  have hbox : W'.heap[t]? = some (.cells #[.int .u32 (x : Int), .slice A acc.length cap] 87 (0, 0)) := (hg.block t (lt_of_blk h.box) (fun e => by have := hk t e.symm; omega)).trans h.box
  have hfull : W'.heap[f]? = some (.cells #[.string fs] 9 (0, 0)) := (hg.block f (lt_of_blk h.full) (fun e => by have := hk f e.symm; omega)).trans h.full
  have t0 := Turned.setCell hbox 1 (.slice A' acc'.length cap')
  simp only [List.setIfInBounds_toArray, List.set_cons_zero, List.set_cons_succ] at t0
  refine ⟨hbox, ?_, t0.get (lt_of_blk hbox), ho.kept t0.grown ?_, t0.keep hfull (by omega), htp, htq, htg, htf, hlow⟩
  · exact hcs.of_turn t0 hlow (by omega) (by omega) (fun hl => by have := htg hl; omega)
  · cases hv : (Value.slice A' acc'.length cap').ownBlock with
    | none => exact .inl rfl
    | some k => right; intro e; cases e; have := (ho.lt _ hv).1; omega
theorem DL.same {w0 W W' : World} {q kd p g c t x f pos cap : Nat} {fs : ByteArray} {v : Value} {l : List Nat} {acc : List (List UInt8)} {A : Option Addr} (h : DL w0 q kd v p g c l t x f fs pos acc A cap W) (ht : Turned t (.cells #[.int .u32 (x : Int), .slice A acc.length cap] 87 (0, 0)) W W') : DL w0 q kd v p g c l t x f fs pos acc A cap W' := by
  have htp := h.tp; have htq := h.tq; have htg := h.tg; have htf := h.tf; have hlow := h.low
  refine ⟨h.cs.of_turn ht h.low (by omega) (by omega) (fun hl => by have := htg hl; omega), ht.get (lt_of_blk h.box), h.own.kept ht.grown ?_, ht.keep h.full (by omega), h.tp, h.tq, h.tg, h.tf, h.low⟩
  cases hv : (Value.slice A acc.length cap).ownBlock with
  | none => exact .inl rfl
  | some k => right; intro e; cases e; have := (h.own.lt _ hv).1; omega
theorem sizeL90 (x i cap : Nat) (A : Option Addr) : (Tryz.prog.info? 87).map (·.size) = some (#[.int .u32 (x : Int), .slice A i cap] : Array Value).size := by kernel_rfl
theorem isDom_some {kd : Nat} {l : List Nat} {acc : List (List UInt8)} (h6 : 6 ≤ l.length) (hk : kd = 31) (hd : domG l (fullL l) 6 [] = some acc) (h0 : acc ≠ []) : isDom kd l = some acc := by
  unfold isDom
  rw [if_pos ⟨h6, hk⟩, hd]
  cases acc with
  | nil => exact absurd rfl h0
  | cons y ys => rfl
theorem isDom_kind {kd : Nat} {l : List Nat} (hk : kd ≠ 31) : isDom kd l = none := by unfold isDom; rw [if_neg (fun h => hk h.2)]
theorem isDom_short {kd : Nat} {l : List Nat} (h6 : ¬ 6 ≤ l.length) : isDom kd l = none := by unfold isDom; rw [if_neg (fun h => h6 h.1)]
theorem isDom_bad {kd : Nat} {l : List Nat} (hd : domG l (fullL l) 6 [] = none) : isDom kd l = none := by unfold isDom; rw [hd]; split <;> rfl
theorem isDom_nil {kd : Nat} {l : List Nat} (hd : domG l (fullL l) 6 [] = some []) : isDom kd l = none := by unfold isDom; rw [hd]; split <;> rfl
/-- what the reader of names gives -/
def DomPost (w0 w : World) (q kd : Nat) (v : Value) (p g c : Nat) (l : List Nat) (e : Ending) (w' : World) : Prop :=
  (∃ acc A k, isDom kd l = some acc ∧ e = .returned (.tuple #[.agg #[.int .u32 (num1 l 2 4 : Nat), .slice A acc.length k], .bool true]) ∧ CS w0 q kd v p g c l.length l w' ∧ w'.ownsRow w.heap.size 9 1 (.slice A acc.length k) acc.length (strs acc)) ∨
  (isDom kd l = none ∧ ∃ (x : Nat) (A : Option Addr) (n k : Nat), e = .returned (.tuple #[.agg #[.int .u32 (x : Int), .slice A n k], .bool false]) ∧ Below w0.heap.size w0 w')
set_option maxRecDepth 100000 in
set_option maxHeartbeats 2400000 in
theorem dom44 {w0 : World} {q kd p g c f cv : Nat} {fs : ByteArray} {Av : Option Addr} {l : List Nat} (w : World) (h : CS w0 q kd (.slice Av l.length cv) p g c 0 l w) (hf : w.heap[f]? = some (.cells #[.string fs] 9 (0, 0))) (hf0 : f < w0.heap.size) (hfs : fs.size = fullL l) (hmx : l.length ≤ 1000000000) (h256 : ∀ x ∈ l, x < 256) :
    Calls Tryz.prog 47 #[.pointer (some ⟨p, 0, none⟩), .pointer (some ⟨q, 0, none⟩), .pointer (some ⟨f, 0, none⟩)] w (DomPost w0 w q kd (.slice Av l.length cv) p g c l) := by
  obtain ⟨i9, hi, hz0, hz1, hz2⟩ := info_parts info9'
  have hz := heap_alloc_new w (.cells #[.int .u32 0, .slice none 0 0] 87)
  have hal0 : Below w.heap.size w (w.alloc (.cells #[.int .u32 0, .slice none 0 0] 87)) := (Below.refl w.heap.size w).alloc (Nat.le_refl _) _
  have hB := h.step hal0
  have hF := (hal0.block f (lt_of_blk hf)).trans hf
  obtain ⟨A0, hp0, _⟩ := h.cut.at_
  have hg0 : l ≠ [] → g < w.heap.size := fun hl => lt_of_cell (h.cut.rd 0 (l[0]'(List.length_pos_iff.2 hl)) (List.getElem?_eq_getElem _))
  have hpl := lt_of_blk hp0
  have hfp : f ≠ p := by have := h.low; omega
  obtain ⟨t, ht⟩ : ∃ t, t = w.heap.size := ⟨_, rfl⟩
  have hnt : p ≠ t := by omega
  have hpt : p < t := by omega
  have hlow : w0.heap.size ≤ t := by rw [ht]; exact h.below.size
  have hqt2 : q < t := by have := lt_of_blk h.box; omega
  have hqt : t ≠ q := by omega
  have hgt2 : l ≠ [] → g < t := fun hl => by have := hg0 hl; omega
  have hgt : l ≠ [] → t ≠ g := fun hl => by have := hgt2 hl; omega
  have HTW : Hid (w.heap.size ≤ t + 1) := Lib.hid (by omega)
  obtain ⟨V, hV⟩ : ∃ V, V = w.alloc (.cells #[.int .u32 0, .slice none 0 0] 87) := ⟨_, rfl⟩
  rw [← hV] at hz hB hF
  rw [← ht] at hz
  have HT := Lib.hid hz; have HS := Lib.hid hB; have HF := Lib.hid hF; have HMX := Lib.hid hmx; have H256 := Lib.hid h256; have HFS := Lib.hid hfs
  have HN0 := Lib.hid ht
  clear hz hB hp0 hmx h256 h hg0 hal0 hF hf hfs
  go_enter Tryz.func47, Tryz.ntmps47
  go_upto_region 1 with (fail)
  rw [← hV, ← ht]
  clear hV ht hpl HN0
  by_cases h6 : 6 ≤ l.length
  · have HN := Lib.hid (num49_be (pos := 0) (k := 2) _ HS.out.cut (by decide) (by decide) (by omega) H256.out)
    go_wp2_with fail
    refine (HN.out).mono ?_
    rintro e w1 ⟨rfl, k1, o1, k2⟩
    obtain ⟨b0, eb0⟩ : ∃ b0, beN ((l.drop 0).take 2) = b0 := ⟨_, rfl⟩
    rw [eb0]
    have HT0 := Lib.hid (k2.keep HT.out hnt.symm)
    have HF0 := Lib.hid (k2.keep HF.out hfp)
    have HS0 : Hid (CS w0 q kd (.slice Av l.length cv) p g c 2 l w1) := Lib.hid (HS.out.turn k1 k2)
    clear k1 k2 eb0 HN HT HS HF
    have HT := HT0
    have HS := HS0
    have HF := HF0
    clear HT0 HS0 HF0
    have HN := Lib.hid (num49_be (pos := 2) (k := 4) _ HS.out.cut (by decide) (by decide) (by omega) H256.out)
    go_wp2_with fail
    refine (HN.out).mono ?_
    rintro e w2 ⟨rfl, k1, o1, k2⟩
    obtain ⟨x, ex⟩ : ∃ x, beN ((l.drop 2).take 4) = x := ⟨_, rfl⟩
    have EX := Lib.hid ex
    have hx4 : x < 4294967296 := by rw [← ex]; exact beN_lt (k := 4) (fun x hx => H256.out x (List.mem_of_mem_drop (List.mem_of_mem_take hx))) (by rw [List.length_take]; omega)
    rw [ex]
    have HT0 := Lib.hid (k2.keep HT.out hnt.symm)
    have HF0 := Lib.hid (k2.keep HF.out hfp)
    have HS0 : Hid (CS w0 q kd (.slice Av l.length cv) p g c 6 l w2) := Lib.hid (HS.out.turn k1 k2)
    clear k1 k2 ex HN HT HS HF
    have HT := HT0
    have HS := HS0
    have HF := HF0
    clear HT0 HS0 HF0
    have z0 := cell_blk HT.out 0
    have f0 := frozen_blk HT.out 0
    simp only [List.getElem?_toArray, List.getElem?_cons_zero, List.getElem?_cons_succ] at z0
    have t0 := Turned.setCell HT.out 0 (.int .u32 (x : Int))
    simp only [List.setIfInBounds_toArray, List.set_cons_zero, List.set_cons_succ] at t0
    have HL0 : Hid (DL w0 q kd (.slice Av l.length cv) p g c l t x f fs 6 [] none 0 (w2.setCell ⟨t, 0, none⟩ (.int .u32 (x : Int)))) := Lib.hid ⟨HS.out.of_turn t0 hlow hqt hnt.symm hgt, t0.get (lt_of_blk HT.out), World.ownsRow_nil _ _ _ _, t0.keep HF.out (by omega), hpt, hqt2, hgt2, hf0, hlow⟩
    clear t0 HT HS HF
    obtain ⟨u1, hu1⟩ : ∃ u1, u1 = w2.setCell ⟨t, 0, none⟩ (.int .u32 (x : Int)) := ⟨_, rfl⟩
    rw [← hu1] at HL0
    go_wp2_with fail
    rw [← hu1]
    clear hu1 hx4 z0 f0
    go_loopw [6, 7] (fun s6 s7 wr => ∃ pos acc A cap, DL w0 q kd (.slice Av l.length cv) p g c l t x f fs pos acc A cap wr ∧ domG l (fullL l) pos acc = domG l (fullL l) 6 [] ∧ acc.length ≤ pos) (fun _ _ wr => leftN wr p)
    case atStart => exact ⟨6, [], none, 0, HL0.out, rfl, by simp⟩
    case round =>
      clear HL0
      obtain ⟨pos, acc, A, cap, hL, hG, hln⟩ := hrel
      have HLEN := Lib.hid hln
      clear hln
      have HL := Lib.hid hL
      obtain ⟨Ap, hp1, -⟩ := hL.cs.cut.at_
      have hle := hL.cs.cut.le
      have HLW := Lib.hid (left48 _ hp1)
      have HP1 := Lib.hid hp1
      have HM := Lib.hid hL.cs.cut.left
      have hmx := HMX.out
      have hfl := fullL_le l
      have hfs := HFS.out
      clear hp1 hL
      by_cases hlt : pos < fullL l
      · have t3 : (pos : Int) < (fs.size : Int) := by rw [hfs]; omega
        have hsub : IntKind.i64.wrap ((l.length : Int) - ((l.length - pos : Nat) : Int)) = (pos : Int) := by rw [show ((l.length : Int) - ((l.length - pos : Nat) : Int)) = (pos : Int) by omega]; exact i64_small (by omega)
        have HSUB := Lib.hid hsub
        have hS : wr.drew.heap[q]? = some (.cells #[.int .u8 (kd : Int), .slice Av l.length cv] 24 (0, 0)) ∧ wr.drew.heap[f]? = some (.cells #[.string fs] 9 (0, 0)) := ⟨HL.out.cs.box, HL.out.full⟩
        have HLD := Lib.hid (HL.out.step (Below.refl _ _).drew)
        have HG := Lib.hid hG; have HLT := Lib.hid hlt
        clear hG hlt hfs hsub
        go_wp2_with fail
        refine wp_region_held_drew (S := fun W => W.heap[q]? = some (.cells #[.int .u8 (kd : Int), .slice Av l.length cv] 24 (0, 0)) ∧ W.heap[f]? = some (.cells #[.string fs] 9 (0, 0))) (by kernel_rfl) hS ?_
        clear hS
        intro HSS
        refine wpAnyH_take (i := 0) (v := ?_) rfl (by kernel_rfl) (by kernel_rfl) (by kernel_rfl) (fun _ _ _ h => h) (Or.inl ⟨by go_simp, ?hy⟩) HSS ?_
        case hy => intro W hW; go_simp; (try with_reducible rfl)
        try simp only [List.getElem_toArray, List.getElem_cons_zero, List.getElem_cons_succ, Act.put, List.setIfInBounds_toArray, List.set_cons_zero, List.set_cons_succ]
        refine wpAnyH_take (i := 1) (v := ?_) rfl (by kernel_rfl) (by kernel_rfl) (by kernel_rfl) (fun _ _ _ h => h) (Or.inl ⟨by go_simp, ?hy⟩) HSS ?_
        case hy => intro W hW; obtain ⟨c1, c2⟩ := hW; have d := cell_blk c1 1; simp only [List.getElem?_toArray, List.getElem?_cons_zero, List.getElem?_cons_succ] at d; go_simp; (try with_reducible rfl)
        try simp only [List.getElem_toArray, List.getElem_cons_zero, List.getElem_cons_succ, Act.put, List.setIfInBounds_toArray, List.set_cons_zero, List.set_cons_succ]
        refine wpAnyH_take (i := 2) (v := ?_) rfl (by kernel_rfl) (by kernel_rfl) (by kernel_rfl) (fun _ _ _ h => h) (Or.inl ⟨by go_simp, ?hy⟩) HSS ?_
        case hy => intro W hW; go_simp; (try with_reducible rfl)
        try simp only [List.getElem_toArray, List.getElem_cons_zero, List.getElem_cons_succ, Act.put, List.setIfInBounds_toArray, List.set_cons_zero, List.set_cons_succ]
        refine wpAnyH_take (i := 3) (v := ?_) rfl (by kernel_rfl) (by kernel_rfl) (by kernel_rfl) (fun _ _ _ h => h) (Or.inl ⟨by go_simp, ?hy⟩) HSS ?_
        case hy => intro W hW; go_simp; (try with_reducible rfl)
        try simp only [List.getElem_toArray, List.getElem_cons_zero, List.getElem_cons_succ, Act.put, List.setIfInBounds_toArray, List.set_cons_zero, List.set_cons_succ]
        refine wpAnyH_take (i := 6) (v := ?_) rfl (by kernel_rfl) (by kernel_rfl) (by kernel_rfl) (fun _ _ _ h => h) (Or.inl ⟨by go_simp, ?hy⟩) HSS ?_
        case hy => intro W hW; obtain ⟨c1, c2⟩ := hW; have d := cell_blk c2 0; simp only [List.getElem?_toArray, List.getElem?_cons_zero, List.getElem?_cons_succ] at d; go_simp; (try with_reducible rfl)
        try simp only [List.getElem_toArray, List.getElem_cons_zero, List.getElem_cons_succ, Act.put, List.setIfInBounds_toArray, List.set_cons_zero, List.set_cons_succ]
        refine wpAnyH_take (i := 7) (v := ?_) rfl (by kernel_rfl) (by kernel_rfl) (by kernel_rfl) (fun _ _ _ h => h) (Or.inl ⟨by go_simp, ?hy⟩) HSS ?_
        case hy => intro W hW; go_simp; (try with_reducible rfl)
        try simp only [List.getElem_toArray, List.getElem_cons_zero, List.getElem_cons_succ, Act.put, List.setIfInBounds_toArray, List.set_cons_zero, List.set_cons_succ]
        refine wpAnyH_ready (rs := [4]) (by kernel_rfl) (by simp) ?_
        refine AllReadyH.cons rfl (fun K hK => ?_) AllReadyH.nil
        rw [if_pos (by kernel_rfl)]
        simp only [List.getElem_toArray, List.getElem_cons_zero, List.getElem_cons_succ]
        go_simp
        refine (left48 wr.drew HP1.out).mono ?_
        rintro e w3 ⟨rfl, rfl⟩
        refine hK.out _ _ (HSS) (fun HSS => ?_)
        clear hK
        try simp only [List.getElem_toArray, List.getElem_cons_zero, List.getElem_cons_succ, Act.put, List.setIfInBounds_toArray, List.set_cons_zero, List.set_cons_succ]
        refine wpAnyH_take (i := 5) (v := .int .i64 (pos : Int)) rfl (by kernel_rfl) (by kernel_rfl) (by kernel_rfl) (fun _ _ _ h => h) (Or.inl ⟨by go_simp, fun W hW => by go_simp; (try exact HSUB.out)⟩) HSS ?_
        try simp only [List.getElem_toArray, List.getElem_cons_zero, List.getElem_cons_succ, Act.put, List.setIfInBounds_toArray, List.set_cons_zero, List.set_cons_succ]
        refine wpAnyH_take (i := 8) (v := .bool true) rfl (by kernel_rfl) (by kernel_rfl) (by kernel_rfl) (fun _ _ _ h => h) (Or.inl ⟨by go_simp, fun W hW => by go_simp; (try omega)⟩) HSS ?_
        try simp only [List.getElem_toArray, List.getElem_cons_zero, List.getElem_cons_succ, Act.put, List.setIfInBounds_toArray, List.set_cons_zero, List.set_cons_succ]
        refine wpAnyH_done (by kernel_rfl) ?_ _
        clear HSS HLW HP1
        have HNM := Lib.hid (name45 wr.drew HLD.out.cs H256.out)
        go_wp2_with fail
        refine (HNM.out).mono ?_
        rintro e w4 ⟨hg4, hP⟩
        clear HNM
        rcases hP with ⟨p', s, hn, rfl, hcs⟩ | ⟨hn, s, rfl⟩
        · have HL4 := Lib.hid (HLD.out.on hg4 hcs)
          have HN4 := Lib.hid hn
          have hlen : acc.length ≤ 1000000000 := by have := HLEN.out; omega
          clear hg4 hcs hn
          have d1 := cell_blk HL4.out.box 1
          simp only [List.getElem?_toArray, List.getElem?_cons_zero, List.getElem?_cons_succ] at d1
          obtain ⟨k, hk⟩ : ∃ k, acc.length = k := ⟨_, rfl⟩
          have hown := HL4.out.own
          rw [hk] at hown d1 hlen
          have HOWN := Lib.hid hown
          have HK := Lib.hid hk
          clear hown hk
          go_wp2_with (at_builtin; refine wpList_append_own _ rfl _ _ 45 rfl (t + 1) 9 i9 (.string ByteArray.empty) 1 16 Tryz.underlying45 hi hz0 hz1 hz2 rfl (by decide) _ _ _ rfl (HOWN.out.alloc _) ⟨w4.heap.size, 0, none⟩ 1 1 [.string ⟨s.toArray⟩] rfl rfl ?c2 ?c1 ?c3 ?c4 ?c5 ?_)
          case c2 =>
            intro j u hj
            rw [Addr.add_mid, Nat.zero_add]
            have c := cell_blk (heap_alloc_new w4 (.cells #[.string ⟨s.toArray⟩] 9)) j
            exact c.trans (by simpa using hj)
          case c1 => intro u hu; simp only [List.mem_cons, List.not_mem_nil, or_false] at hu; subst hu; rfl
          case c3 => unfold maxLen; omega
          case c4 => omega
          case c5 => have := lt_of_blk HL4.out.box; simp; omega
          intro v7 w7 ho7 hg7 _
          obtain ⟨A7, c7, rfl, -⟩ := own_slice2 ho7
          have hal : Below w4.heap.size w4 (w4.alloc (.cells #[.string ⟨s.toArray⟩] 9)) := (Below.refl _ _).alloc (Nat.le_refl _) _
          have e1 : (acc ++ [s]).length = k + 1 := by rw [List.length_append, HK.out]; rfl
          have e2 : strs (acc ++ [s]) = strs acc ++ [.string ⟨s.toArray⟩] := by unfold strs; rw [List.map_append]; rfl
          have h7 := (HL4.out.step hal).add (acc' := acc ++ [s]) (A' := A7) (cap' := c7) (by rw [HK.out]; exact hg7) (by rw [e1, e2]; exact ho7)
          rw [HK.out] at h7
          have HB7 := Lib.hid h7.1
          have H7 : Hid (DL w0 q kd (.slice Av l.length cv) p g c l t x f fs p' (acc ++ [s]) A7 c7 (w7.setCell ⟨t, 1, none⟩ (.slice A7 (k + 1) c7))) := Lib.hid (by rw [← e1]; exact h7.2)
          have HE1 := Lib.hid e1
          have z1 := cell_blk HB7.out 1
          have f1 := frozen_blk HB7.out 1
          simp only [List.getElem?_toArray, List.getElem?_cons_zero, List.getElem?_cons_succ] at z1
          clear ho7 hg7 hal e1 e2 h7 HL4 HOWN
          go_wp2_with fail
          go_roundw
          case rel => exact ⟨p', acc ++ [s], A7, c7, H7.out, (domG_step (fullL_le l) HLT.out HN4.out).symm.trans HG.out, by have := nameN_pos HN4.out; have := HLEN.out; rw [HE1.out]; have := HK.out; omega⟩
          case measure => have h1 := H7.out.cs.cut.left; have h2 := HM.out; have h3 := nameN_pos HN4.out; omega
        · have HDM := Lib.hid (isDom_bad (kd := kd) (HG.out.symm.trans (domG_none (fullL_le l) HLT.out hn)))
          have hb4 : Below w0.heap.size w0 w4 := Below.grown' HLD.out.cs.below hg4 HLD.out.cs.below.size (fun k e => by cases e; exact HLD.out.cs.low)
          have HB4 := Lib.hid hb4
          have HX : Hid (w4.heap[t]? = some (.cells #[.int .u32 (x : Int), .slice A acc.length cap] 87 (0, 0))) := Lib.hid ((hg4.block t (lt_of_blk HLD.out.box) (fun e => by cases e; have := HLD.out.tp; omega)).trans HLD.out.box)
          have HSZ := Lib.hid (sizeL90 x acc.length cap A)
          have H1Z := Lib.hid (oneL127 x acc.length cap A)
          clear hg4 hn hb4 HL HLD
          go_wp2_with (first | (refine wpList_load_row rfl 87 _ rfl t rfl 87 _ (0, 0) _ HX.out Tryz.underlying87 rfl HSZ.out ?_) | (refine wpList_store_row rfl 87 _ _ rfl t #[.int .u32 (x : Int), .slice A acc.length cap] rfl rfl 87 _ HX.out HSZ.out rfl H1Z.out ?_))
          have t9 := Turned.setRow HX.out #[.int .u32 (x : Int), .slice A acc.length cap]
          refine bodyPost_ret (results_row_tmp Tryz.results47 _ _ t 87 _ (0, 0) _ rfl (t9.get (lt_of_blk HX.out)) Tryz.underlying87 rfl HSZ.out) rfl ?_
          exact .inr ⟨HDM.out, x, A, acc.length, cap, rfl, HB4.out.trans (t9.below hlow)⟩
      · have HE := Lib.hid (hG.symm.trans (domG_done (fullL_le l) hlt))
        have t3 : ¬ (pos : Int) < (fs.size : Int) := by rw [hfs]; omega
        have hsub : IntKind.i64.wrap ((l.length : Int) - ((l.length - pos : Nat) : Int)) = (pos : Int) := by rw [show ((l.length : Int) - ((l.length - pos : Nat) : Int)) = (pos : Int) by omega]; exact i64_small (by omega)
        have HSUB := Lib.hid hsub
        have hS : wr.drew.heap[q]? = some (.cells #[.int .u8 (kd : Int), .slice Av l.length cv] 24 (0, 0)) ∧ wr.drew.heap[f]? = some (.cells #[.string fs] 9 (0, 0)) := ⟨HL.out.cs.box, HL.out.full⟩
        have HLD := Lib.hid (HL.out.step (Below.refl _ _).drew)
        clear hG hlt hfs hsub
        go_wp2_with fail
        refine wp_region_held_drew (S := fun W => W.heap[q]? = some (.cells #[.int .u8 (kd : Int), .slice Av l.length cv] 24 (0, 0)) ∧ W.heap[f]? = some (.cells #[.string fs] 9 (0, 0))) (by kernel_rfl) hS ?_
        clear hS
        intro HSS
        refine wpAnyH_take (i := 0) (v := ?_) rfl (by kernel_rfl) (by kernel_rfl) (by kernel_rfl) (fun _ _ _ h => h) (Or.inl ⟨by go_simp, ?hy⟩) HSS ?_
        case hy => intro W hW; go_simp; (try with_reducible rfl)
        try simp only [List.getElem_toArray, List.getElem_cons_zero, List.getElem_cons_succ, Act.put, List.setIfInBounds_toArray, List.set_cons_zero, List.set_cons_succ]
        refine wpAnyH_take (i := 1) (v := ?_) rfl (by kernel_rfl) (by kernel_rfl) (by kernel_rfl) (fun _ _ _ h => h) (Or.inl ⟨by go_simp, ?hy⟩) HSS ?_
        case hy => intro W hW; obtain ⟨c1, c2⟩ := hW; have d := cell_blk c1 1; simp only [List.getElem?_toArray, List.getElem?_cons_zero, List.getElem?_cons_succ] at d; go_simp; (try with_reducible rfl)
        try simp only [List.getElem_toArray, List.getElem_cons_zero, List.getElem_cons_succ, Act.put, List.setIfInBounds_toArray, List.set_cons_zero, List.set_cons_succ]
        refine wpAnyH_take (i := 2) (v := ?_) rfl (by kernel_rfl) (by kernel_rfl) (by kernel_rfl) (fun _ _ _ h => h) (Or.inl ⟨by go_simp, ?hy⟩) HSS ?_
        case hy => intro W hW; go_simp; (try with_reducible rfl)
        try simp only [List.getElem_toArray, List.getElem_cons_zero, List.getElem_cons_succ, Act.put, List.setIfInBounds_toArray, List.set_cons_zero, List.set_cons_succ]
        refine wpAnyH_take (i := 3) (v := ?_) rfl (by kernel_rfl) (by kernel_rfl) (by kernel_rfl) (fun _ _ _ h => h) (Or.inl ⟨by go_simp, ?hy⟩) HSS ?_
        case hy => intro W hW; go_simp; (try with_reducible rfl)
        try simp only [List.getElem_toArray, List.getElem_cons_zero, List.getElem_cons_succ, Act.put, List.setIfInBounds_toArray, List.set_cons_zero, List.set_cons_succ]
        refine wpAnyH_take (i := 6) (v := ?_) rfl (by kernel_rfl) (by kernel_rfl) (by kernel_rfl) (fun _ _ _ h => h) (Or.inl ⟨by go_simp, ?hy⟩) HSS ?_
        case hy => intro W hW; obtain ⟨c1, c2⟩ := hW; have d := cell_blk c2 0; simp only [List.getElem?_toArray, List.getElem?_cons_zero, List.getElem?_cons_succ] at d; go_simp; (try with_reducible rfl)
        try simp only [List.getElem_toArray, List.getElem_cons_zero, List.getElem_cons_succ, Act.put, List.setIfInBounds_toArray, List.set_cons_zero, List.set_cons_succ]
        refine wpAnyH_take (i := 7) (v := ?_) rfl (by kernel_rfl) (by kernel_rfl) (by kernel_rfl) (fun _ _ _ h => h) (Or.inl ⟨by go_simp, ?hy⟩) HSS ?_
        case hy => intro W hW; go_simp; (try with_reducible rfl)
        try simp only [List.getElem_toArray, List.getElem_cons_zero, List.getElem_cons_succ, Act.put, List.setIfInBounds_toArray, List.set_cons_zero, List.set_cons_succ]
        refine wpAnyH_ready (rs := [4]) (by kernel_rfl) (by simp) ?_
        refine AllReadyH.cons rfl (fun K hK => ?_) AllReadyH.nil
        rw [if_pos (by kernel_rfl)]
        simp only [List.getElem_toArray, List.getElem_cons_zero, List.getElem_cons_succ]
        go_simp
        refine (left48 wr.drew HP1.out).mono ?_
        rintro e w3 ⟨rfl, rfl⟩
        refine hK.out _ _ (HSS) (fun HSS => ?_)
        clear hK
        try simp only [List.getElem_toArray, List.getElem_cons_zero, List.getElem_cons_succ, Act.put, List.setIfInBounds_toArray, List.set_cons_zero, List.set_cons_succ]
        refine wpAnyH_take (i := 5) (v := .int .i64 (pos : Int)) rfl (by kernel_rfl) (by kernel_rfl) (by kernel_rfl) (fun _ _ _ h => h) (Or.inl ⟨by go_simp, fun W hW => by go_simp; (try exact HSUB.out)⟩) HSS ?_
        try simp only [List.getElem_toArray, List.getElem_cons_zero, List.getElem_cons_succ, Act.put, List.setIfInBounds_toArray, List.set_cons_zero, List.set_cons_succ]
        refine wpAnyH_take (i := 8) (v := .bool false) rfl (by kernel_rfl) (by kernel_rfl) (by kernel_rfl) (fun _ _ _ h => h) (Or.inl ⟨by go_simp, fun W hW => by go_simp; (try omega)⟩) HSS ?_
        try simp only [List.getElem_toArray, List.getElem_cons_zero, List.getElem_cons_succ, Act.put, List.setIfInBounds_toArray, List.set_cons_zero, List.set_cons_succ]
        refine wpAnyH_done (by kernel_rfl) ?_ _
        clear HSS HLW HP1 HL
        have HRS := Lib.hid (rest46 wr.drew HLD.out.cs.cut)
        go_wp2_with fail
        refine (HRS.out).mono ?_
        rintro e w4 ⟨⟨A4, n4, k4, rfl⟩, k1, o1, k2⟩
        have HL : Hid (DL w0 q kd (.slice Av l.length cv) p g c l t x f fs l.length acc A cap w4) := Lib.hid (HLD.out.turn k1 k2)
        clear k1 k2 HRS HLD
        have HX := Lib.hid HL.out.box
        have HSZ := Lib.hid (sizeL90 x acc.length cap A)
        have H1Z := Lib.hid (oneL127 x acc.length cap A)
        have c0 := cell_blk HL.out.cs.box 0
        have d1 := cell_blk HL.out.box 1
        simp only [List.getElem?_toArray, List.getElem?_cons_zero, List.getElem?_cons_succ] at c0 d1
        by_cases k31 : kd = 31
        · have t1 : ((kd : Int) == 31) = true := by simp; omega
          by_cases hi0 : acc = []
          · have HDM := Lib.hid (isDom_nil (kd := kd) (by rw [HE.out, hi0]))
            subst hi0
            clear k31
            go_wp2_with (first | (refine wpList_load_row rfl 87 _ rfl t rfl 87 _ (0, 0) _ HX.out Tryz.underlying87 rfl HSZ.out ?_) | (refine wpList_store_row rfl 87 _ _ rfl t #[.int .u32 (x : Int), .slice A ([] : List (List UInt8)).length cap] rfl rfl 87 _ HX.out HSZ.out rfl H1Z.out ?_))
            have t9 := Turned.setRow HX.out #[.int .u32 (x : Int), .slice A ([] : List (List UInt8)).length cap]
            refine bodyPost_ret (results_row_tmp Tryz.results47 _ _ t 87 _ (0, 0) _ rfl (t9.get (lt_of_blk HX.out)) Tryz.underlying87 rfl HSZ.out) rfl ?_
            exact .inr ⟨HDM.out, x, A, 0, cap, rfl, (HL.out.same t9).cs.below⟩
          · have t2 : (0 : Int) < (acc.length : Int) := by have := List.length_pos_iff.2 hi0; omega
            have HDM := Lib.hid (isDom_some (kd := kd) h6 k31 HE.out hi0)
            clear k31
            go_wp2_with (first | (refine wpList_load_row rfl 87 _ rfl t rfl 87 _ (0, 0) _ HX.out Tryz.underlying87 rfl HSZ.out ?_) | (refine wpList_store_row rfl 87 _ _ rfl t #[.int .u32 (x : Int), .slice A acc.length cap] rfl rfl 87 _ HX.out HSZ.out rfl H1Z.out ?_))
            have t9 := Turned.setRow HX.out #[.int .u32 (x : Int), .slice A acc.length cap]
            refine bodyPost_ret (results_row_tmp Tryz.results47 _ _ t 87 _ (0, 0) _ rfl (t9.get (lt_of_blk HX.out)) Tryz.underlying87 rfl HSZ.out) rfl ?_
            have hL9 := HL.out.same t9
            refine .inl ⟨acc, A, cap, HDM.out, ?_, hL9.cs, own_mono hL9.own HTW.out⟩
            unfold num1
            rw [EX.out]
            have hd : decide (0 < acc.length) = true := decide_eq_true (List.length_pos_iff.2 hi0)
            refine Eq.trans (?_ : _ = Ending.returned (.tuple #[.agg #[.int .u32 (x : Int), .slice A acc.length cap], .bool (decide (0 < acc.length))])) (by rw [hd])
            rfl
        · have t1 : ((kd : Int) == 31) = false := by simp; omega
          have HDM := Lib.hid (isDom_kind (l := l) k31)
          clear k31
          go_wp2_with (first | (refine wpList_load_row rfl 87 _ rfl t rfl 87 _ (0, 0) _ HX.out Tryz.underlying87 rfl HSZ.out ?_) | (refine wpList_store_row rfl 87 _ _ rfl t #[.int .u32 (x : Int), .slice A acc.length cap] rfl rfl 87 _ HX.out HSZ.out rfl H1Z.out ?_))
          have t9 := Turned.setRow HX.out #[.int .u32 (x : Int), .slice A acc.length cap]
          refine bodyPost_ret (results_row_tmp Tryz.results47 _ _ t 87 _ (0, 0) _ rfl (t9.get (lt_of_blk HX.out)) Tryz.underlying87 rfl HSZ.out) rfl ?_
          exact .inr ⟨HDM.out, x, A, acc.length, cap, rfl, (HL.out.same t9).cs.below⟩
  · have HDM := Lib.hid (isDom_short (kd := kd) h6)
    clear HTW hi hz0 hz1 hz2
    by_cases h2 : 2 ≤ l.length
    · have HN := Lib.hid (num49_be (pos := 0) (k := 2) _ HS.out.cut (by decide) (by decide) (by omega) H256.out)
      have hl6 : l.length - 2 < 4 := by omega
      go_wp2_with fail
      refine (HN.out).mono ?_
      rintro e w1 ⟨rfl, k1, o1, k2⟩
      obtain ⟨b0, eb0⟩ : ∃ b0, beN ((l.drop 0).take 2) = b0 := ⟨_, rfl⟩
      rw [eb0]
      have HT0 := Lib.hid (k2.keep HT.out hnt.symm)
      have HF0 := Lib.hid (k2.keep HF.out hfp)
      have HS0 : Hid (CS w0 q kd (.slice Av l.length cv) p g c 2 l w1) := Lib.hid (HS.out.turn k1 k2)
      obtain ⟨A1, hp1, -⟩ := k1.at_
      have HN2 := Lib.hid (num49_badk _ _ 4 hp1 (by decide) (by decide) (.inl hl6))
      clear k1 k2 eb0 HN HT HS HF hp1
      go_wp2_with fail
      refine (HN2.out).mono ?_
      rintro e w2 ⟨rfl, k1, o1, k2⟩
      have HT := Lib.hid (k2.keep HT0.out hnt.symm)
      have HF := Lib.hid (k2.keep HF0.out hfp)
      have HS := Lib.hid (HS0.out.spoil k1 k2)
      clear k1 k2 HN2 HT0 HS0 HF0 hl6
      have z0 := cell_blk HT.out 0
      have f0 := frozen_blk HT.out 0
      simp only [List.getElem?_toArray, List.getElem?_cons_zero, List.getElem?_cons_succ] at z0
      have t0 := Turned.setCell HT.out 0 (.int .u32 0)
      simp only [List.setIfInBounds_toArray, List.set_cons_zero, List.set_cons_succ] at t0
      have HP9 := Lib.hid (t0.keep HS.out.cut hnt)
      have HQ9 := Lib.hid (t0.keep HS.out.box hqt.symm)
      have HF9 := Lib.hid (t0.keep HF.out (by omega))
      have HX := Lib.hid (t0.get (lt_of_blk HT.out))
      have HB9 := Lib.hid (HS.out.below.trans (t0.below hlow))
      obtain ⟨u1, hu1⟩ : ∃ u1, u1 = w2.setCell ⟨t, 0, none⟩ (.int .u32 0) := ⟨_, rfl⟩
      rw [← hu1] at HP9 HQ9 HX HB9 HF9
      clear t0 HT HS HF
      go_wp2_with fail
      rw [← hu1]
      clear hu1 z0 f0
      go_loopw [6, 7] (fun s6 s7 wr => wr = u1) (fun _ _ wr => 0)
      case atStart => exact rfl
      case round =>
        subst hrel
        have hfl := fullL_le l
        have hfs := HFS.out
        have hmx := HMX.out
        have t3 : ¬ (l.length : Int) < (fs.size : Int) := by rw [hfs]; omega
        have HSUB : Hid (IntKind.i64.wrap (l.length : Int) = (l.length : Int)) := Lib.hid (i64_small (by omega))
        have HSZ := Lib.hid (sizeL90 0 0 0 none)
        have H1Z := Lib.hid (oneL127 0 0 0 none)
        have hS : wr.drew.heap[q]? = some (.cells #[.int .u8 (kd : Int), .slice Av l.length cv] 24 (0, 0)) ∧ wr.drew.heap[f]? = some (.cells #[.string fs] 9 (0, 0)) := ⟨HQ9.out, HF9.out⟩
        have HLW := Lib.hid (left48 wr.drew HP9.out)
        clear hfs
        go_wp2_with fail
        refine wp_region_held_drew (S := fun W => W.heap[q]? = some (.cells #[.int .u8 (kd : Int), .slice Av l.length cv] 24 (0, 0)) ∧ W.heap[f]? = some (.cells #[.string fs] 9 (0, 0))) (by kernel_rfl) hS ?_
        clear hS
        intro HSS
        refine wpAnyH_take (i := 0) (v := ?_) rfl (by kernel_rfl) (by kernel_rfl) (by kernel_rfl) (fun _ _ _ h => h) (Or.inl ⟨by go_simp, ?hy⟩) HSS ?_
        case hy => intro W hW; go_simp; (try with_reducible rfl)
        try simp only [List.getElem_toArray, List.getElem_cons_zero, List.getElem_cons_succ, Act.put, List.setIfInBounds_toArray, List.set_cons_zero, List.set_cons_succ]
        refine wpAnyH_take (i := 1) (v := ?_) rfl (by kernel_rfl) (by kernel_rfl) (by kernel_rfl) (fun _ _ _ h => h) (Or.inl ⟨by go_simp, ?hy⟩) HSS ?_
        case hy => intro W hW; obtain ⟨c1, c2⟩ := hW; have d := cell_blk c1 1; simp only [List.getElem?_toArray, List.getElem?_cons_zero, List.getElem?_cons_succ] at d; go_simp; (try with_reducible rfl)
        try simp only [List.getElem_toArray, List.getElem_cons_zero, List.getElem_cons_succ, Act.put, List.setIfInBounds_toArray, List.set_cons_zero, List.set_cons_succ]
        refine wpAnyH_take (i := 2) (v := ?_) rfl (by kernel_rfl) (by kernel_rfl) (by kernel_rfl) (fun _ _ _ h => h) (Or.inl ⟨by go_simp, ?hy⟩) HSS ?_
        case hy => intro W hW; go_simp; (try with_reducible rfl)
        try simp only [List.getElem_toArray, List.getElem_cons_zero, List.getElem_cons_succ, Act.put, List.setIfInBounds_toArray, List.set_cons_zero, List.set_cons_succ]
        refine wpAnyH_take (i := 3) (v := ?_) rfl (by kernel_rfl) (by kernel_rfl) (by kernel_rfl) (fun _ _ _ h => h) (Or.inl ⟨by go_simp, ?hy⟩) HSS ?_
        case hy => intro W hW; go_simp; (try with_reducible rfl)
        try simp only [List.getElem_toArray, List.getElem_cons_zero, List.getElem_cons_succ, Act.put, List.setIfInBounds_toArray, List.set_cons_zero, List.set_cons_succ]
        refine wpAnyH_take (i := 6) (v := ?_) rfl (by kernel_rfl) (by kernel_rfl) (by kernel_rfl) (fun _ _ _ h => h) (Or.inl ⟨by go_simp, ?hy⟩) HSS ?_
        case hy => intro W hW; obtain ⟨c1, c2⟩ := hW; have d := cell_blk c2 0; simp only [List.getElem?_toArray, List.getElem?_cons_zero, List.getElem?_cons_succ] at d; go_simp; (try with_reducible rfl)
        try simp only [List.getElem_toArray, List.getElem_cons_zero, List.getElem_cons_succ, Act.put, List.setIfInBounds_toArray, List.set_cons_zero, List.set_cons_succ]
        refine wpAnyH_take (i := 7) (v := ?_) rfl (by kernel_rfl) (by kernel_rfl) (by kernel_rfl) (fun _ _ _ h => h) (Or.inl ⟨by go_simp, ?hy⟩) HSS ?_
        case hy => intro W hW; go_simp; (try with_reducible rfl)
        try simp only [List.getElem_toArray, List.getElem_cons_zero, List.getElem_cons_succ, Act.put, List.setIfInBounds_toArray, List.set_cons_zero, List.set_cons_succ]
        refine wpAnyH_ready (rs := [4]) (by kernel_rfl) (by simp) ?_
        refine AllReadyH.cons rfl (fun K hK => ?_) AllReadyH.nil
        rw [if_pos (by kernel_rfl)]
        simp only [List.getElem_toArray, List.getElem_cons_zero, List.getElem_cons_succ]
        go_simp
        refine (HLW.out).mono ?_
        rintro e w3 ⟨rfl, rfl⟩
        refine hK.out _ _ (HSS) (fun HSS => ?_)
        clear hK
        try simp only [List.getElem_toArray, List.getElem_cons_zero, List.getElem_cons_succ, Act.put, List.setIfInBounds_toArray, List.set_cons_zero, List.set_cons_succ]
        refine wpAnyH_take (i := 5) (v := .int .i64 (l.length : Int)) rfl (by kernel_rfl) (by kernel_rfl) (by kernel_rfl) (fun _ _ _ h => h) (Or.inl ⟨by go_simp, fun W hW => by go_simp; (try exact HSUB.out)⟩) HSS ?_
        try simp only [List.getElem_toArray, List.getElem_cons_zero, List.getElem_cons_succ, Act.put, List.setIfInBounds_toArray, List.set_cons_zero, List.set_cons_succ]
        refine wpAnyH_take (i := 8) (v := .bool false) rfl (by kernel_rfl) (by kernel_rfl) (by kernel_rfl) (fun _ _ _ h => h) (Or.inl ⟨by go_simp, fun W hW => by go_simp; (try omega)⟩) HSS ?_
        try simp only [List.getElem_toArray, List.getElem_cons_zero, List.getElem_cons_succ, Act.put, List.setIfInBounds_toArray, List.set_cons_zero, List.set_cons_succ]
        refine wpAnyH_done (by kernel_rfl) ?_ _
        clear HSS HLW
        have HRS := Lib.hid (rest46_bad wr.drew HP9.out)
        have HXD : Hid (wr.drew.heap[t]? = some (.cells #[.int .u32 ((0 : Nat) : Int), .slice none 0 0] 87 (0, 0))) := Lib.hid HX.out
        have HBD := Lib.hid (HB9.out.drew)
        have c0 : wr.drew.cell? ⟨q, 0, none⟩ = some (.int .u8 (kd : Int)) := cell_blk HQ9.out 0
        have d1 : wr.drew.cell? ⟨t, 1, none⟩ = some (.slice none 0 0) := cell_blk HX.out 1
        obtain ⟨W, hW⟩ : ∃ W, W = wr.drew := ⟨_, rfl⟩
        rw [← hW] at HRS HXD HBD c0 d1 ⊢
        clear hW HX HB9 HP9 HQ9 HF9
        go_wp2_with fail
        refine (HRS.out).mono ?_
        rintro e w4 ⟨rfl, rfl⟩
        clear HRS
        by_cases k31 : kd = 31
        · have t1 : ((kd : Int) == 31) = true := by simp; omega
          clear k31
          go_wp2_with (first | (refine wpList_load_row rfl 87 _ rfl t rfl 87 _ (0, 0) _ HXD.out Tryz.underlying87 rfl HSZ.out ?_) | (refine wpList_store_row rfl 87 _ _ rfl t #[.int .u32 ((0 : Nat) : Int), .slice none 0 0] rfl rfl 87 _ HXD.out HSZ.out rfl H1Z.out ?_))
          have t9 := Turned.setRow HXD.out #[.int .u32 ((0 : Nat) : Int), .slice none 0 0]
          refine bodyPost_ret (results_row_tmp Tryz.results47 _ _ t 87 _ (0, 0) _ rfl (t9.get (lt_of_blk HXD.out)) Tryz.underlying87 rfl HSZ.out) rfl ?_
          exact .inr ⟨HDM.out, 0, none, 0, 0, rfl, HBD.out.trans (t9.below hlow)⟩
        · have t1 : ((kd : Int) == 31) = false := by simp; omega
          clear k31
          go_wp2_with (first | (refine wpList_load_row rfl 87 _ rfl t rfl 87 _ (0, 0) _ HXD.out Tryz.underlying87 rfl HSZ.out ?_) | (refine wpList_store_row rfl 87 _ _ rfl t #[.int .u32 ((0 : Nat) : Int), .slice none 0 0] rfl rfl 87 _ HXD.out HSZ.out rfl H1Z.out ?_))
          have t9 := Turned.setRow HXD.out #[.int .u32 ((0 : Nat) : Int), .slice none 0 0]
          refine bodyPost_ret (results_row_tmp Tryz.results47 _ _ t 87 _ (0, 0) _ rfl (t9.get (lt_of_blk HXD.out)) Tryz.underlying87 rfl HSZ.out) rfl ?_
          exact .inr ⟨HDM.out, 0, none, 0, 0, rfl, HBD.out.trans (t9.below hlow)⟩
    · have hl6 : l.length - 0 < 2 := by omega
      obtain ⟨A1, hp1, -⟩ := HS.out.cut.at_
      have HN := Lib.hid (num49_badk _ _ 2 hp1 (by decide) (by decide) (.inl hl6))
      clear hp1
      go_wp2_with fail
      refine (HN.out).mono ?_
      rintro e w1 ⟨rfl, k1, o1, k2⟩
      have HT0 := Lib.hid (k2.keep HT.out hnt.symm)
      have HF0 := Lib.hid (k2.keep HF.out hfp)
      have HS0 := Lib.hid (HS.out.spoil k1 k2)
      have HN2 := Lib.hid (num49_badk _ _ 4 HS0.out.cut (by decide) (by decide) (.inr rfl))
      clear k1 k2 HN HT HS HF
      go_wp2_with fail
      refine (HN2.out).mono ?_
      rintro e w2 ⟨rfl, k1, o1, k2⟩
      have HT := Lib.hid (k2.keep HT0.out hnt.symm)
      have HF := Lib.hid (k2.keep HF0.out hfp)
      have HS := Lib.hid (HS0.out.again k1 k2)
      clear k1 k2 HN2 HT0 HS0 HF0 hl6
      have z0 := cell_blk HT.out 0
      have f0 := frozen_blk HT.out 0
      simp only [List.getElem?_toArray, List.getElem?_cons_zero, List.getElem?_cons_succ] at z0
      have t0 := Turned.setCell HT.out 0 (.int .u32 0)
      simp only [List.setIfInBounds_toArray, List.set_cons_zero, List.set_cons_succ] at t0
      have HP9 := Lib.hid (t0.keep HS.out.cut hnt)
      have HQ9 := Lib.hid (t0.keep HS.out.box hqt.symm)
      have HF9 := Lib.hid (t0.keep HF.out (by omega))
      have HX := Lib.hid (t0.get (lt_of_blk HT.out))
      have HB9 := Lib.hid (HS.out.below.trans (t0.below hlow))
      obtain ⟨u1, hu1⟩ : ∃ u1, u1 = w2.setCell ⟨t, 0, none⟩ (.int .u32 0) := ⟨_, rfl⟩
      rw [← hu1] at HP9 HQ9 HX HB9 HF9
      clear t0 HT HS HF
      go_wp2_with fail
      rw [← hu1]
      clear hu1 z0 f0
      go_loopw [6, 7] (fun s6 s7 wr => wr = u1) (fun _ _ wr => 0)
      case atStart => exact rfl
      case round =>
        subst hrel
        have hfl := fullL_le l
        have hfs := HFS.out
        have hmx := HMX.out
        have t3 : ¬ (l.length : Int) < (fs.size : Int) := by rw [hfs]; omega
        have HSUB : Hid (IntKind.i64.wrap (l.length : Int) = (l.length : Int)) := Lib.hid (i64_small (by omega))
        have HSZ := Lib.hid (sizeL90 0 0 0 none)
        have H1Z := Lib.hid (oneL127 0 0 0 none)
        have hS : wr.drew.heap[q]? = some (.cells #[.int .u8 (kd : Int), .slice Av l.length cv] 24 (0, 0)) ∧ wr.drew.heap[f]? = some (.cells #[.string fs] 9 (0, 0)) := ⟨HQ9.out, HF9.out⟩
        have HLW := Lib.hid (left48 wr.drew HP9.out)
        clear hfs
        go_wp2_with fail
        refine wp_region_held_drew (S := fun W => W.heap[q]? = some (.cells #[.int .u8 (kd : Int), .slice Av l.length cv] 24 (0, 0)) ∧ W.heap[f]? = some (.cells #[.string fs] 9 (0, 0))) (by kernel_rfl) hS ?_
        clear hS
        intro HSS
        refine wpAnyH_take (i := 0) (v := ?_) rfl (by kernel_rfl) (by kernel_rfl) (by kernel_rfl) (fun _ _ _ h => h) (Or.inl ⟨by go_simp, ?hy⟩) HSS ?_
        case hy => intro W hW; go_simp; (try with_reducible rfl)
        try simp only [List.getElem_toArray, List.getElem_cons_zero, List.getElem_cons_succ, Act.put, List.setIfInBounds_toArray, List.set_cons_zero, List.set_cons_succ]
        refine wpAnyH_take (i := 1) (v := ?_) rfl (by kernel_rfl) (by kernel_rfl) (by kernel_rfl) (fun _ _ _ h => h) (Or.inl ⟨by go_simp, ?hy⟩) HSS ?_
        case hy => intro W hW; obtain ⟨c1, c2⟩ := hW; have d := cell_blk c1 1; simp only [List.getElem?_toArray, List.getElem?_cons_zero, List.getElem?_cons_succ] at d; go_simp; (try with_reducible rfl)
        try simp only [List.getElem_toArray, List.getElem_cons_zero, List.getElem_cons_succ, Act.put, List.setIfInBounds_toArray, List.set_cons_zero, List.set_cons_succ]
        refine wpAnyH_take (i := 2) (v := ?_) rfl (by kernel_rfl) (by kernel_rfl) (by kernel_rfl) (fun _ _ _ h => h) (Or.inl ⟨by go_simp, ?hy⟩) HSS ?_
        case hy => intro W hW; go_simp; (try with_reducible rfl)
        try simp only [List.getElem_toArray, List.getElem_cons_zero, List.getElem_cons_succ, Act.put, List.setIfInBounds_toArray, List.set_cons_zero, List.set_cons_succ]
        refine wpAnyH_take (i := 3) (v := ?_) rfl (by kernel_rfl) (by kernel_rfl) (by kernel_rfl) (fun _ _ _ h => h) (Or.inl ⟨by go_simp, ?hy⟩) HSS ?_
        case hy => intro W hW; go_simp; (try with_reducible rfl)
        try simp only [List.getElem_toArray, List.getElem_cons_zero, List.getElem_cons_succ, Act.put, List.setIfInBounds_toArray, List.set_cons_zero, List.set_cons_succ]
        refine wpAnyH_take (i := 6) (v := ?_) rfl (by kernel_rfl) (by kernel_rfl) (by kernel_rfl) (fun _ _ _ h => h) (Or.inl ⟨by go_simp, ?hy⟩) HSS ?_
        case hy => intro W hW; obtain ⟨c1, c2⟩ := hW; have d := cell_blk c2 0; simp only [List.getElem?_toArray, List.getElem?_cons_zero, List.getElem?_cons_succ] at d; go_simp; (try with_reducible rfl)
        try simp only [List.getElem_toArray, List.getElem_cons_zero, List.getElem_cons_succ, Act.put, List.setIfInBounds_toArray, List.set_cons_zero, List.set_cons_succ]
        refine wpAnyH_take (i := 7) (v := ?_) rfl (by kernel_rfl) (by kernel_rfl) (by kernel_rfl) (fun _ _ _ h => h) (Or.inl ⟨by go_simp, ?hy⟩) HSS ?_
        case hy => intro W hW; go_simp; (try with_reducible rfl)
        try simp only [List.getElem_toArray, List.getElem_cons_zero, List.getElem_cons_succ, Act.put, List.setIfInBounds_toArray, List.set_cons_zero, List.set_cons_succ]
        refine wpAnyH_ready (rs := [4]) (by kernel_rfl) (by simp) ?_
        refine AllReadyH.cons rfl (fun K hK => ?_) AllReadyH.nil
        rw [if_pos (by kernel_rfl)]
        simp only [List.getElem_toArray, List.getElem_cons_zero, List.getElem_cons_succ]
        go_simp
        refine (HLW.out).mono ?_
        rintro e w3 ⟨rfl, rfl⟩
        refine hK.out _ _ (HSS) (fun HSS => ?_)
        clear hK
        try simp only [List.getElem_toArray, List.getElem_cons_zero, List.getElem_cons_succ, Act.put, List.setIfInBounds_toArray, List.set_cons_zero, List.set_cons_succ]
        refine wpAnyH_take (i := 5) (v := .int .i64 (l.length : Int)) rfl (by kernel_rfl) (by kernel_rfl) (by kernel_rfl) (fun _ _ _ h => h) (Or.inl ⟨by go_simp, fun W hW => by go_simp; (try exact HSUB.out)⟩) HSS ?_
        try simp only [List.getElem_toArray, List.getElem_cons_zero, List.getElem_cons_succ, Act.put, List.setIfInBounds_toArray, List.set_cons_zero, List.set_cons_succ]
        refine wpAnyH_take (i := 8) (v := .bool false) rfl (by kernel_rfl) (by kernel_rfl) (by kernel_rfl) (fun _ _ _ h => h) (Or.inl ⟨by go_simp, fun W hW => by go_simp; (try omega)⟩) HSS ?_
        try simp only [List.getElem_toArray, List.getElem_cons_zero, List.getElem_cons_succ, Act.put, List.setIfInBounds_toArray, List.set_cons_zero, List.set_cons_succ]
        refine wpAnyH_done (by kernel_rfl) ?_ _
        clear HSS HLW
        have HRS := Lib.hid (rest46_bad wr.drew HP9.out)
        have HXD : Hid (wr.drew.heap[t]? = some (.cells #[.int .u32 ((0 : Nat) : Int), .slice none 0 0] 87 (0, 0))) := Lib.hid HX.out
        have HBD := Lib.hid (HB9.out.drew)
        have c0 : wr.drew.cell? ⟨q, 0, none⟩ = some (.int .u8 (kd : Int)) := cell_blk HQ9.out 0
        have d1 : wr.drew.cell? ⟨t, 1, none⟩ = some (.slice none 0 0) := cell_blk HX.out 1
        obtain ⟨W, hW⟩ : ∃ W, W = wr.drew := ⟨_, rfl⟩
        rw [← hW] at HRS HXD HBD c0 d1 ⊢
        clear hW HX HB9 HP9 HQ9 HF9
        go_wp2_with fail
        refine (HRS.out).mono ?_
        rintro e w4 ⟨rfl, rfl⟩
        clear HRS
        by_cases k31 : kd = 31
        · have t1 : ((kd : Int) == 31) = true := by simp; omega
          clear k31
          go_wp2_with (first | (refine wpList_load_row rfl 87 _ rfl t rfl 87 _ (0, 0) _ HXD.out Tryz.underlying87 rfl HSZ.out ?_) | (refine wpList_store_row rfl 87 _ _ rfl t #[.int .u32 ((0 : Nat) : Int), .slice none 0 0] rfl rfl 87 _ HXD.out HSZ.out rfl H1Z.out ?_))
          have t9 := Turned.setRow HXD.out #[.int .u32 ((0 : Nat) : Int), .slice none 0 0]
          refine bodyPost_ret (results_row_tmp Tryz.results47 _ _ t 87 _ (0, 0) _ rfl (t9.get (lt_of_blk HXD.out)) Tryz.underlying87 rfl HSZ.out) rfl ?_
          exact .inr ⟨HDM.out, 0, none, 0, 0, rfl, HBD.out.trans (t9.below hlow)⟩
        · have t1 : ((kd : Int) == 31) = false := by simp; omega
          clear k31
          go_wp2_with (first | (refine wpList_load_row rfl 87 _ rfl t rfl 87 _ (0, 0) _ HXD.out Tryz.underlying87 rfl HSZ.out ?_) | (refine wpList_store_row rfl 87 _ _ rfl t #[.int .u32 ((0 : Nat) : Int), .slice none 0 0] rfl rfl 87 _ HXD.out HSZ.out rfl H1Z.out ?_))
          have t9 := Turned.setRow HXD.out #[.int .u32 ((0 : Nat) : Int), .slice none 0 0]
          refine bodyPost_ret (results_row_tmp Tryz.results47 _ _ t 87 _ (0, 0) _ rfl (t9.get (lt_of_blk HXD.out)) Tryz.underlying87 rfl HSZ.out) rfl ?_
          exact .inr ⟨HDM.out, 0, none, 0, 0, rfl, HBD.out.trans (t9.below hlow)⟩
end Go.Proofs.YtfolamkjlgpgmaaGreatDoor

/- Of an option its names: the walks. No condition but that the bytes are bytes. (Printed by gDomW.py.) -/
namespace Go.Proofs.YtfolamkjlgpgmaaGreatDoor
open Go.RowKit
set_option linter.unusedVariables false
set_option linter.unusedSimpArgs false
def ToldD (w : World) (kd : Nat) (l : List Nat) (e : Ending) (w' : World) : Prop :=
  Below w.heap.size w w' ∧ ((isDom kd l = none ∧ e = .returned (.tuple #[.agg #[.int .u32 0, .slice none 0 0], .bool false])) ∨
   (∃ acc A k, isDom kd l = some acc ∧ e = .returned (.tuple #[.agg #[.int .u32 (num1 l 2 4 : Nat), .slice A acc.length k], .bool true]) ∧ w'.ownsRow w.heap.size 9 1 (.slice A acc.length k) acc.length (strs acc)))
theorem sizeZ90 : (Tryz.prog.info? 87).map (·.size) = some (#[.int .u32 0, .slice none 0 0] : Array Value).size := by kernel_rfl
set_option maxRecDepth 100000 in
set_option maxHeartbeats 2000000 in
theorem told43 {q kd f : Nat} {A : Option Addr} {c : Nat} {fs : ByteArray} {l : List Nat} (w : World) (hq : w.heap[q]? = some (.cells #[.int .u8 (kd : Int), .slice A l.length c] 24 (0, 0))) (hf : w.heap[f]? = some (.cells #[.string fs] 9 (0, 0))) (hfs : fs.size = fullL l) (h : Bs w w.heap.size A c l) (hl : l.length ≤ 1000000000) (h256 : ∀ x ∈ l, x < 256) :
    Calls Tryz.prog 46 #[.slice A l.length c, .int .i64 (l.length : Int), .func (.func 47) #[] #[.pointer (some ⟨q, 0, none⟩), .pointer (some ⟨f, 0, none⟩)]] w (ToldD w kd l) := by
  obtain ⟨V, hV⟩ : ∃ V, V = w.alloc (.cells #[.int .u32 0, .slice none 0 0] 87) := ⟨_, rfl⟩
  have hz : V.heap[w.heap.size]? = some (.cells #[.int .u32 0, .slice none 0 0] 87 (0, 0)) := by rw [hV, heap_alloc_new]
  have hBV : Below w.heap.size w V := by rw [hV]; exact (Below.refl _ _).alloc (Nat.le_refl _) _
  have hVs : V.heap.size = w.heap.size + 1 := by rw [hV]; simp
  have HZ := Lib.hid hz; have HBV := Lib.hid hBV; have HVS := Lib.hid hVs
  have hqV := (hBV.block q (lt_of_blk hq)).trans hq
  have hfV := (hBV.block f (lt_of_blk hf)).trans hf
  have HQ := Lib.hid hqV; have HQL := Lib.hid (lt_of_blk hq); have HF := Lib.hid hfV; have HFL := Lib.hid (lt_of_blk hf)
  have HO := Lib.hid (of47 (c := c) V (h.below hBV) hl)
  have HSZ := Lib.hid sizeZ90
  have HZ1 : Hid (((#[.int .u32 0, .slice none 0 0] : Array Value).all (·.oneCell')) = true) := Lib.hid (by simp [Value.oneCell'])
  have H256 := Lib.hid h256; have HLL := Lib.hid hl; have HFS := Lib.hid hfs
  have HDC : Hid (∀ (w1 : World) (p g c1 : Nat), CS V q kd (.slice A l.length c) p g c1 0 l w1 → Calls Tryz.prog 47 #[.pointer (some ⟨p, 0, none⟩), .pointer (some ⟨q, 0, none⟩), .pointer (some ⟨f, 0, none⟩)] w1 (DomPost V w1 q kd (.slice A l.length c) p g c1 l)) := Lib.hid (fun w1 p g c1 hS => dom44 w1 hS ((hS.below.block f (lt_of_blk hfV)).trans hfV) (lt_of_blk hfV) hfs hl h256)
  obtain ⟨n, hn⟩ : ∃ n, l.length = n := ⟨_, rfl⟩
  have HN := Lib.hid hn
  rw [hn] at HO ⊢
  clear hz hBV hVs hq h hqV h256 hn hl hf hfV hfs
  have t0 : ((n : Int) != (n : Int)) = false := by simp
  go_enter Tryz.func46, Tryz.ntmps46
  go_wp2_with fail
  rw [← hV]
  clear hV
  refine (HO.out).mono ?_
  rintro e w1 ⟨p, g, c1, rfl, k1, k2, k3, k4⟩
  have hS1 : CS V q kd (.slice A l.length c) p g c1 0 l w1 := ⟨k1, (k4.block q (by rw [HVS.out]; have := HQL.out; omega)).trans HQ.out, k2, by have := HQL.out; have := HVS.out; omega, k4⟩
  have HB1 := Lib.hid k4
  have HCL := Lib.hid (HDC.out w1 p g c1 hS1)
  clear k1 k2 k3 k4 hS1 HO HDC
  go_wp2_with fail
  refine (HCL.out).mono ?_
  rintro e w2 hP
  clear HCL
  rcases hP with ⟨acc, A2, k2, hD, rfl, hS2, ho2⟩ | ⟨hD, x, A2, n2, k2, rfl, hb2⟩
  · have hn3 := heap_alloc_new w2 (.cells #[.int .u32 0, .slice none 0 0] 87)
    have hb3 : Below w2.heap.size w2 (w2.alloc (.cells #[.int .u32 0, .slice none 0 0] 87)) := (Below.refl _ _).alloc (Nat.le_refl _) _
    have HD := Lib.hid hD
    obtain ⟨m, hm⟩ : ∃ m, acc.length = m := ⟨_, rfl⟩
    obtain ⟨x, hx⟩ : ∃ x, num1 l 2 4 = x := ⟨_, rfl⟩
    have HM := Lib.hid hm; have HX := Lib.hid hx
    rw [hm] at ho2 ⊢
    rw [hx]
    have t3 := Turned.setRow hn3 #[.int .u32 (x : Int), .slice A2 m k2]
    have hb4 := hb3.trans (t3.below (Nat.le_refl _))
    have HN3 := Lib.hid hn3
    have HSC := Lib.hid (sizeL90 x m k2 A2)
    have HC1 := Lib.hid (oneL127 x m k2 A2)
    have hlt : w.heap.size < w1.heap.size := by have := HB1.out.size; have := HVS.out; omega
    have HLT := Lib.hid hlt
    have HS4 := Lib.hid (hS2.step hb4)
    have HO4 := Lib.hid (own_below ho2 hb4)
    have HT9 := Lib.hid (t3.get (lt_of_blk hn3))
    have HZ4 := Lib.hid (((hS2.step hb4).below.block w.heap.size (by rw [HVS.out]; omega)).trans HZ.out)
    clear hS2 hn3 hb3 t3 hb4 ho2 hm hx hlt hD
    go_wp2_with (refine wpList_store_row rfl 87 _ _ rfl w2.heap.size #[.int .u32 (x : Int), .slice A2 m k2] rfl rfl 87 _ HN3.out HSC.out ?hold HC1.out ?_)
    case hold => rfl
    obtain ⟨W, hW⟩ : ∃ W, W = (w2.alloc (.cells #[.int .u32 0, .slice none 0 0] 87)).setRow w2.heap.size #[.int .u32 (x : Int), .slice A2 m k2] := ⟨_, rfl⟩
    rw [← hW] at HS4 HT9 HZ4 HO4 ⊢
    clear hW HN3
    obtain ⟨Ap, hp, _⟩ := HS4.out.cut.at_
    rw [Nat.sub_self] at hp
    have HBAD := Lib.hid (bad51 W hp)
    have HLEFT : Hid (Calls Tryz.prog 42 #[.pointer (some ⟨p, 0, none⟩)] W fun e w' => e = .returned (.int .i64 0) ∧ W = w') := Lib.hid ((left48 W hp).mono (by
      rintro e w' ⟨rfl, rfl⟩
      exact ⟨by simp, rfl⟩))
    obtain ⟨t9, ht9⟩ : ∃ t9, t9 = w2.heap.size := ⟨_, rfl⟩
    rw [← ht9] at HT9 ⊢
    clear hp ht9
    go_wp2_with fail
    refine (HBAD.out).mono ?_
    rintro e w5 ⟨rfl, rfl⟩
    go_wp2_with fail
    refine (HLEFT.out).mono ?_
    rintro e w5 ⟨rfl, rfl⟩
    go_wp2_with (first | (refine wpList_load_row rfl 87 _ rfl t9 rfl 87 _ (0, 0) _ HT9.out Tryz.underlying87 rfl HSC.out ?_) | (refine wpList_store_row rfl 87 _ _ rfl w.heap.size #[.int .u32 (x : Int), .slice A2 m k2] rfl rfl 87 _ HZ4.out HSC.out ?hold HC1.out ?_))
    case hold => rfl
    have t := Turned.setRow HZ4.out #[.int .u32 (x : Int), .slice A2 m k2]
    have ho9 := HO4.out.kept t.grown (by
      cases hv : (Value.slice A2 m k2).ownBlock with
      | none => exact .inl rfl
      | some k => right; intro e; cases e; have := (HO4.out.lt _ hv).1; have := HLT.out; omega)
    refine bodyPost_ret (results_row_tmp Tryz.results46 _ _ w.heap.size 87 _ (0, 0) _ rfl (t.get (lt_of_blk HZ4.out)) Tryz.underlying87 rfl HSC.out) rfl ⟨?_, .inr ⟨acc, A2, k2, HD.out, ?_, ?_⟩⟩
    · exact HBV.out.trans ((HS4.out.below.mono (by rw [HVS.out]; omega)).trans (t.below (Nat.le_refl _)))
    · rw [HM.out, HX.out]; rfl
    · rw [HM.out]; exact own_mono ho9 (by have := HLT.out; omega)
  · have hn3 := heap_alloc_new w2 (.cells #[.int .u32 0, .slice none 0 0] 87)
    have hb3 : Below w2.heap.size w2 (w2.alloc (.cells #[.int .u32 0, .slice none 0 0] 87)) := (Below.refl _ _).alloc (Nat.le_refl _) _
    have t3 := Turned.setRow hn3 #[.int .u32 (x : Int), .slice A2 n2 k2]
    have hb4 := hb3.trans (t3.below (Nat.le_refl _))
    have HN3 := Lib.hid hn3
    have HSC := Lib.hid (sizeL90 x n2 k2 A2)
    have HC1 := Lib.hid (oneL127 x n2 k2 A2)
    have hb5 := hb2.trans (hb4.mono hb2.size)
    have HB5 := Lib.hid hb5; have HD := Lib.hid hD
    have HZ9 := Lib.hid ((hb5.block w.heap.size (by rw [HVS.out]; omega)).trans HZ.out)
    clear hn3 hb3 t3 hb4 hb2 hb5 hD
    go_upto_region 5 with (refine wpList_store_row rfl 87 _ _ rfl w2.heap.size #[.int .u32 (x : Int), .slice A2 n2 k2] rfl rfl 87 _ HN3.out HSC.out ?hold HC1.out ?_)
    case hold => rfl
    obtain ⟨W, hW⟩ : ∃ W, W = (w2.alloc (.cells #[.int .u32 0, .slice none 0 0] 87)).setRow w2.heap.size #[.int .u32 (x : Int), .slice A2 n2 k2] := ⟨_, rfl⟩
    rw [← hW] at HB5 HZ9 ⊢
    clear hW HN3
    go_wp2_with (first | (refine wpList_load_row rfl 87 _ rfl w.heap.size rfl 87 _ (0, 0) _ HZ9.out Tryz.underlying87 rfl HSZ.out ?_) | (refine wpList_store_row rfl 87 _ _ rfl w.heap.size #[.int .u32 0, .slice none 0 0] rfl rfl 87 _ HZ9.out HSZ.out rfl HZ1.out ?_))
    have t := Turned.setRow HZ9.out #[.int .u32 0, .slice none 0 0]
    refine bodyPost_ret (results_row_tmp Tryz.results46 _ _ w.heap.size 87 _ (0, 0) _ rfl (t.get (lt_of_blk HZ9.out)) Tryz.underlying87 rfl HSZ.out) rfl ⟨?_, .inl ⟨HD.out, rfl⟩⟩
    exact HBV.out.trans ((HB5.out.mono (by rw [HVS.out]; omega)).trans (t.below (Nat.le_refl _)))
set_option maxRecDepth 100000 in
set_option maxHeartbeats 1000000 in
theorem clip47 (A : Option Addr) (n c : Nat) (hn : n ≤ c) (w : World) : Calls Tryz.prog 50 #[.slice A n c] w fun e w' => e = .returned (.slice A n n) ∧ w = w' := by
  go_enter Tryz.func50, Tryz.ntmps50
  go_wp2_with fail
  go_ret
  exact ⟨rfl, rfl⟩
theorem str_bs {W : World} {B c : Nat} {A : Option Addr} {l : List Nat} (h : Bs W B A c l) : (convert 22 9 (.slice A l.length c)).run Tryz.prog W = .ok (.string ⟨(l.map UInt8.ofNat).toArray⟩) W := by
  cases hl : l with
  | nil =>
    rw [List.length_nil, run_convert_bytes_string W 22 9 5 _ 0 c Tryz.underlying22 Tryz.underlying5 Tryz.underlying9]
    cases A <;> simp [Conv.bytesToString, loadCells]
    all_goals rfl
  | cons y ys =>
    rw [← hl]
    obtain ⟨b, o, rfl, _, hr⟩ := h.rd (by rw [hl]; exact List.cons_ne_nil _ _)
    have h1 := run_convert_bytes_arg (P := Tryz.prog) W 22 5 Tryz.underlying22 Tryz.underlying5 b o l.length c (l.map (fun x : Nat => (x : Int))) (by rw [List.length_map]) (fun i hi => by
      have e : l[i]? = some (l[i]'hi) := List.getElem?_eq_getElem _
      rw [hr i _ e, List.getD_eq_getElem?_getD, List.getElem?_map, e]
      rfl) 9 Tryz.underlying9
    have e : strOfNums (l.map (fun x : Nat => (x : Int))) = ⟨(l.map UInt8.ofNat).toArray⟩ := by
      unfold strOfNums
      rw [List.map_map]
      rfl
    rw [h1, e]
theorem full_trim {l : List Nat} (h256 : ∀ x ∈ l, x < 256) : (Lib.trimRightB (l.map UInt8.ofNat) 0).length = fullL l := by
  unfold Lib.trimRightB fullL
  rw [List.length_reverse, ← List.map_reverse]
  have h : ∀ m : List Nat, (∀ x ∈ m, x < 256) → ((m.map UInt8.ofNat).dropWhile (· == (0 : UInt8))).length = (m.dropWhile (· == 0)).length := by
    intro m
    induction m with
    | nil => intro _; rfl
    | cons x m ih =>
      intro hm
      rw [List.map_cons, List.dropWhile_cons, List.dropWhile_cons]
      have hx := hm x (by simp)
      have e : (UInt8.ofNat x == (0 : UInt8)) = (x == 0) := by
        by_cases h0 : x = 0
        · subst h0; rfl
        · have h1 : (x == 0) = false := by simpa using h0
          rw [h1]
          have h2 : UInt8.ofNat x ≠ 0 := by
            intro e
            have := congrArg UInt8.toNat e
            rw [UInt8.toNat_ofNat'] at this
            simp at this
            omega
          simpa using h2
      rw [e]
      split
      · exact ih (fun y hy => hm y (by simp [hy]))
      · simp
  exact h l.reverse (fun x hx => h256 x (List.mem_reverse.1 hx))
/-- what is told of names -/
def NamesPost (w : World) (kd : Nat) (l : List Nat) (e : Ending) (w' : World) : Prop :=
  Below w.heap.size w w' ∧ ((isDom kd l = none ∧ e = .returned (.tuple #[.int .u32 0, .slice none 0 0, .bool false])) ∨
   (∃ acc A k, isDom kd l = some acc ∧ e = .returned (.tuple #[.int .u32 (num1 l 2 4 : Nat), .slice A acc.length acc.length, .bool true]) ∧ acc.length ≤ k ∧ w'.ownsRow w.heap.size 9 1 (.slice A acc.length k) acc.length (strs acc)))
set_option maxRecDepth 100000 in
set_option maxHeartbeats 2000000 in
theorem dom17 {kd : Nat} {A : Option Addr} {c : Nat} {l : List Nat} (w : World) (h : Bs w w.heap.size A c l) (hl : l.length ≤ 1000000000) (h256 : ∀ x ∈ l, x < 256) :
    Calls Tryz.prog 14 #[.agg #[.int .u8 (kd : Int), .slice A l.length c]] w (NamesPost w kd l) := by
  have h2 := heap_alloc_new w (.cells #[.int .u8 (kd : Int), .slice A l.length c] 24)
  have hb2 : Below w.heap.size w (w.alloc (.cells #[.int .u8 (kd : Int), .slice A l.length c] 24)) := (Below.refl _ _).alloc (Nat.le_refl _) _
  obtain ⟨V, hV⟩ : ∃ V, V = w.alloc (.cells #[.int .u8 (kd : Int), .slice A l.length c] 24) := ⟨_, rfl⟩
  rw [← hV] at hb2 h2
  have hcv := str_bs (h.below hb2)
  obtain ⟨S, hS⟩ : ∃ S : ByteArray, S = ⟨(l.map UInt8.ofNat).toArray⟩ := ⟨_, rfl⟩
  rw [← hS] at hcv
  have hSd : S.data.toList = l.map UInt8.ofNat := by rw [hS]
  have hSz : S.size = l.length := by rw [← ByteArray.size_data, ← Array.length_toList, hSd, List.length_map]
  have HTR := Lib.hid (Tryz.strings_TrimRight_one S 0 (by decide) V (by omega))
  have hft := full_trim h256
  rw [← hSd] at hft
  have HFT := Lib.hid hft
  obtain ⟨q, hq⟩ : ∃ q, q = w.heap.size := ⟨_, rfl⟩
  rw [← hq] at h2
  have HQ := Lib.hid h2; have HB := Lib.hid hb2; have HBS := Lib.hid h; have HLL := Lib.hid hl; have H256 := Lib.hid h256
  obtain ⟨n, hn⟩ : ∃ n, l.length = n := ⟨_, rfl⟩
  have HN := Lib.hid hn
  have c1 := cell_blk h2 1
  simp only [List.getElem?_toArray, List.getElem?_cons_zero, List.getElem?_cons_succ] at c1
  rw [hn] at c1 hV hcv ⊢
  clear h hb2 h2 hl h256 hS hSd hSz hft hn
  go_enter Tryz.func14, Tryz.ntmps14
  go_upto_region 1 with (fail)
  rw [← hV, ← hq]
  clear hV hq
  go_wp2_with fail
  clear hcv
  refine (HTR.out).mono ?_
  rintro e w2 ⟨rfl, rfl⟩
  obtain ⟨fs, hfs⟩ : ∃ fs : ByteArray, fs = ⟨(Lib.trimRightB S.data.toList 0).toArray⟩ := ⟨_, rfl⟩
  rw [← hfs]
  have hfz : fs.size = fullL l := by rw [← HFT.out, hfs, ← ByteArray.size_data, ← Array.length_toList]
  have hn3 := heap_alloc_new w2 (.cells #[.string fs] 9)
  have hal : Below w2.heap.size w2 (w2.alloc (.cells #[.string fs] 9)) := (Below.refl _ _).alloc (Nat.le_refl _) _
  obtain ⟨f, hf⟩ : ∃ f, f = w2.heap.size := ⟨_, rfl⟩
  obtain ⟨U, hU⟩ : ∃ U, U = w2.alloc (.cells #[.string fs] 9) := ⟨_, rfl⟩
  rw [← hf] at hn3
  rw [← hU] at hn3 hal
  have hbU := HB.out.trans (hal.mono HB.out.size)
  have hqU := (hal.block q (lt_of_blk HQ.out)).trans HQ.out
  have HT := Lib.hid (told43 U hqU hn3 hfz ((HBS.out.below hbU).mono hbU.size) HLL.out H256.out)
  rw [HN.out] at HT
  have c2 : U.cell? ⟨q, 1, none⟩ = some (.slice A n c) := by rw [← HN.out]; exact (cell_blk hqU 1).trans rfl
  have HBU := Lib.hid hbU
  clear hfs hfz hn3 hal hbU hqU HTR HFT c1
  go_upto_region 2 with (fail)
  rw [← hU, ← hf]
  clear hU hf
  go_wp2_with fail
  refine (HT.out).mono ?_
  rintro e w3 ⟨hb, hP⟩
  have hb3 := HBU.out.trans (hb.mono HBU.out.size)
  have HBS3 := Lib.hid HBU.out.size
  clear HT hb c2
  rcases hP with ⟨hD, rfl⟩ | ⟨acc, A2, k, hD, rfl, ho⟩
  · have HD := Lib.hid hD
    have hn3 := heap_alloc_new w3 (.cells #[.int .u32 0, .slice none 0 0] 87)
    have HB5 : Hid (Below w.heap.size w (w3.alloc (.cells #[.int .u32 0, .slice none 0 0] 87))) := Lib.hid (hb3.alloc hb3.size _)
    obtain ⟨t, ht⟩ : ∃ t, t = w3.heap.size := ⟨_, rfl⟩
    have HCK : Hid (0 ≤ 0) := Lib.hid (Nat.le_refl _)
    rw [← ht] at hn3
    have HN3 := Lib.hid hn3
    clear hb3 hn3 hD
    go_upto_region 3 with (fail)
    obtain ⟨W, hW⟩ : ∃ W, W = w3.alloc (.cells #[.int .u32 0, .slice none 0 0] 87) := ⟨_, rfl⟩
    rw [← ht, ← hW]
    rw [← hW] at HN3 HB5
    clear ht hW
    have hS : W.drew.heap[t]? = some (.cells #[.int .u32 0, .slice none 0 0] 87 (0, 0)) := HN3.out
    refine wp_region_held_drew (S := fun W => W.heap[t]? = some (.cells #[.int .u32 0, .slice none 0 0] 87 (0, 0))) (by kernel_rfl) hS ?_
    clear hS
    intro HSS
    refine wpAnyH_take (i := 0) (v := ?_) rfl (by kernel_rfl) (by kernel_rfl) (by kernel_rfl) (fun _ _ _ h => h) (Or.inl ⟨by go_simp, ?hy⟩) HSS ?_
    case hy => intro W hW; go_simp; (try with_reducible rfl)
    try simp only [List.getElem_toArray, List.getElem_cons_zero, List.getElem_cons_succ, Act.put, List.setIfInBounds_toArray, List.set_cons_zero, List.set_cons_succ]
    refine wpAnyH_take (i := 1) (v := ?_) rfl (by kernel_rfl) (by kernel_rfl) (by kernel_rfl) (fun _ _ _ h => h) (Or.inl ⟨by go_simp, ?hy⟩) HSS ?_
    case hy => intro W hW; have c := cell_blk hW 0; simp only [List.getElem?_toArray, List.getElem?_cons_zero, List.getElem?_cons_succ] at c; go_simp; (try with_reducible rfl)
    try simp only [List.getElem_toArray, List.getElem_cons_zero, List.getElem_cons_succ, Act.put, List.setIfInBounds_toArray, List.set_cons_zero, List.set_cons_succ]
    refine wpAnyH_take (i := 2) (v := ?_) rfl (by kernel_rfl) (by kernel_rfl) (by kernel_rfl) (fun _ _ _ h => h) (Or.inl ⟨by go_simp, ?hy⟩) HSS ?_
    case hy => intro W hW; go_simp; (try with_reducible rfl)
    try simp only [List.getElem_toArray, List.getElem_cons_zero, List.getElem_cons_succ, Act.put, List.setIfInBounds_toArray, List.set_cons_zero, List.set_cons_succ]
    refine wpAnyH_take (i := 3) (v := ?_) rfl (by kernel_rfl) (by kernel_rfl) (by kernel_rfl) (fun _ _ _ h => h) (Or.inl ⟨by go_simp, ?hy⟩) HSS ?_
    case hy => intro W hW; have c := cell_blk hW 1; simp only [List.getElem?_toArray, List.getElem?_cons_zero, List.getElem?_cons_succ] at c; go_simp; (try with_reducible rfl)
    try simp only [List.getElem_toArray, List.getElem_cons_zero, List.getElem_cons_succ, Act.put, List.setIfInBounds_toArray, List.set_cons_zero, List.set_cons_succ]
    refine wpAnyH_take (i := 5) (v := ?_) rfl (by kernel_rfl) (by kernel_rfl) (by kernel_rfl) (fun _ _ _ h => h) (Or.inl ⟨by go_simp, ?hy⟩) HSS ?_
    case hy => intro W hW; go_simp; (try with_reducible rfl)
    try simp only [List.getElem_toArray, List.getElem_cons_zero, List.getElem_cons_succ, Act.put, List.setIfInBounds_toArray, List.set_cons_zero, List.set_cons_succ]
    refine wpAnyH_ready (rs := [4]) (by kernel_rfl) (by simp) ?_
    refine AllReadyH.cons rfl (fun K hK => ?_) AllReadyH.nil
    rw [if_pos (by kernel_rfl)]
    simp only [List.getElem_toArray, List.getElem_cons_zero, List.getElem_cons_succ]
    go_simp
    refine (clip47 none 0 0 HCK.out _).mono ?_
    rintro e w9 ⟨rfl, rfl⟩
    refine hK.out _ _ (HSS) (fun HSS => ?_)
    clear hK
    try simp only [List.getElem_toArray, List.getElem_cons_zero, List.getElem_cons_succ, Act.put, List.setIfInBounds_toArray, List.set_cons_zero, List.set_cons_succ]
    refine wpAnyH_take (i := 6) (v := ?_) rfl (by kernel_rfl) (by kernel_rfl) (by kernel_rfl) (fun _ _ _ h => h) (Or.inl ⟨by go_simp, ?hy⟩) HSS ?_
    case hy => intro W hW; go_simp; (try with_reducible rfl)
    try simp only [List.getElem_toArray, List.getElem_cons_zero, List.getElem_cons_succ, Act.put, List.setIfInBounds_toArray, List.set_cons_zero, List.set_cons_succ]
    refine wpAnyH_take (i := 7) (v := ?_) rfl (by kernel_rfl) (by kernel_rfl) (by kernel_rfl) (fun _ _ _ h => h) (Or.inl ⟨by go_simp, ?hy⟩) HSS ?_
    case hy => intro W hW; go_simp; (try with_reducible rfl)
    try simp only [List.getElem_toArray, List.getElem_cons_zero, List.getElem_cons_succ, Act.put, List.setIfInBounds_toArray, List.set_cons_zero, List.set_cons_succ]
    refine wpAnyH_take (i := 8) (v := ?_) rfl (by kernel_rfl) (by kernel_rfl) (by kernel_rfl) (fun _ _ _ h => h) (Or.inl ⟨by go_simp, ?hy⟩) HSS ?_
    case hy => intro W hW; go_simp; (try with_reducible rfl)
    try simp only [List.getElem_toArray, List.getElem_cons_zero, List.getElem_cons_succ, Act.put, List.setIfInBounds_toArray, List.set_cons_zero, List.set_cons_succ]
    refine wpAnyH_done (by kernel_rfl) ?_ _
    clear HSS
    go_wp2_with fail
    refine bodyPost_ret (v := .tuple #[.int .u32 0, .slice none 0 0, .bool false]) (by (simp [results, Tryz.results14, go_sem]); try rfl) rfl ?_
    exact ⟨HB5.out.trans (Below.refl _ _).drew, .inl ⟨HD.out, rfl⟩⟩
  · have HD := Lib.hid hD
    obtain ⟨m, hm⟩ : ∃ m, acc.length = m := ⟨_, rfl⟩
    obtain ⟨x, hx⟩ : ∃ x, num1 l 2 4 = x := ⟨_, rfl⟩
    have HM := Lib.hid hm; have HX := Lib.hid hx
    rw [hm] at ho ⊢
    rw [hx]
    obtain ⟨A9, k9, e9, hk9⟩ := own_slice2 ho
    cases e9
    have HCK := Lib.hid hk9
    have hn3 := heap_alloc_new w3 (.cells #[.int .u32 (x : Int), .slice A2 m k] 87)
    have hal : Below w3.heap.size w3 (w3.alloc (.cells #[.int .u32 (x : Int), .slice A2 m k] 87)) := (Below.refl _ _).alloc (Nat.le_refl _) _
    have HO5 := Lib.hid (own_below ho hal)
    have HB5 : Hid (Below w.heap.size w (w3.alloc (.cells #[.int .u32 (x : Int), .slice A2 m k] 87))) := Lib.hid (hb3.alloc hb3.size _)
    obtain ⟨t, ht⟩ : ∃ t, t = w3.heap.size := ⟨_, rfl⟩
    rw [← ht] at hn3
    have HN3 := Lib.hid hn3
    clear hb3 hn3 hal ho hk9 hm hx hD
    go_upto_region 3 with (fail)
    obtain ⟨W, hW⟩ : ∃ W, W = w3.alloc (.cells #[.int .u32 (x : Int), .slice A2 m k] 87) := ⟨_, rfl⟩
    rw [← ht, ← hW]
    rw [← hW] at HN3 HB5 HO5
    clear ht hW
    have hS : W.drew.heap[t]? = some (.cells #[.int .u32 (x : Int), .slice A2 m k] 87 (0, 0)) := HN3.out
    refine wp_region_held_drew (S := fun W => W.heap[t]? = some (.cells #[.int .u32 (x : Int), .slice A2 m k] 87 (0, 0))) (by kernel_rfl) hS ?_
    clear hS
    intro HSS
    refine wpAnyH_take (i := 0) (v := ?_) rfl (by kernel_rfl) (by kernel_rfl) (by kernel_rfl) (fun _ _ _ h => h) (Or.inl ⟨by go_simp, ?hy⟩) HSS ?_
    case hy => intro W hW; go_simp; (try with_reducible rfl)
    try simp only [List.getElem_toArray, List.getElem_cons_zero, List.getElem_cons_succ, Act.put, List.setIfInBounds_toArray, List.set_cons_zero, List.set_cons_succ]
    refine wpAnyH_take (i := 1) (v := ?_) rfl (by kernel_rfl) (by kernel_rfl) (by kernel_rfl) (fun _ _ _ h => h) (Or.inl ⟨by go_simp, ?hy⟩) HSS ?_
    case hy => intro W hW; have c := cell_blk hW 0; simp only [List.getElem?_toArray, List.getElem?_cons_zero, List.getElem?_cons_succ] at c; go_simp; (try with_reducible rfl)
    try simp only [List.getElem_toArray, List.getElem_cons_zero, List.getElem_cons_succ, Act.put, List.setIfInBounds_toArray, List.set_cons_zero, List.set_cons_succ]
    refine wpAnyH_take (i := 2) (v := ?_) rfl (by kernel_rfl) (by kernel_rfl) (by kernel_rfl) (fun _ _ _ h => h) (Or.inl ⟨by go_simp, ?hy⟩) HSS ?_
    case hy => intro W hW; go_simp; (try with_reducible rfl)
    try simp only [List.getElem_toArray, List.getElem_cons_zero, List.getElem_cons_succ, Act.put, List.setIfInBounds_toArray, List.set_cons_zero, List.set_cons_succ]
    refine wpAnyH_take (i := 3) (v := ?_) rfl (by kernel_rfl) (by kernel_rfl) (by kernel_rfl) (fun _ _ _ h => h) (Or.inl ⟨by go_simp, ?hy⟩) HSS ?_
    case hy => intro W hW; have c := cell_blk hW 1; simp only [List.getElem?_toArray, List.getElem?_cons_zero, List.getElem?_cons_succ] at c; go_simp; (try with_reducible rfl)
    try simp only [List.getElem_toArray, List.getElem_cons_zero, List.getElem_cons_succ, Act.put, List.setIfInBounds_toArray, List.set_cons_zero, List.set_cons_succ]
    refine wpAnyH_take (i := 5) (v := ?_) rfl (by kernel_rfl) (by kernel_rfl) (by kernel_rfl) (fun _ _ _ h => h) (Or.inl ⟨by go_simp, ?hy⟩) HSS ?_
    case hy => intro W hW; go_simp; (try with_reducible rfl)
    try simp only [List.getElem_toArray, List.getElem_cons_zero, List.getElem_cons_succ, Act.put, List.setIfInBounds_toArray, List.set_cons_zero, List.set_cons_succ]
    refine wpAnyH_ready (rs := [4]) (by kernel_rfl) (by simp) ?_
    refine AllReadyH.cons rfl (fun K hK => ?_) AllReadyH.nil
    rw [if_pos (by kernel_rfl)]
    simp only [List.getElem_toArray, List.getElem_cons_zero, List.getElem_cons_succ]
    go_simp
    refine (clip47 A2 m k HCK.out _).mono ?_
    rintro e w9 ⟨rfl, rfl⟩
    refine hK.out _ _ (HSS) (fun HSS => ?_)
    clear hK
    try simp only [List.getElem_toArray, List.getElem_cons_zero, List.getElem_cons_succ, Act.put, List.setIfInBounds_toArray, List.set_cons_zero, List.set_cons_succ]
    refine wpAnyH_take (i := 6) (v := ?_) rfl (by kernel_rfl) (by kernel_rfl) (by kernel_rfl) (fun _ _ _ h => h) (Or.inl ⟨by go_simp, ?hy⟩) HSS ?_
    case hy => intro W hW; go_simp; (try with_reducible rfl)
    try simp only [List.getElem_toArray, List.getElem_cons_zero, List.getElem_cons_succ, Act.put, List.setIfInBounds_toArray, List.set_cons_zero, List.set_cons_succ]
    refine wpAnyH_take (i := 7) (v := ?_) rfl (by kernel_rfl) (by kernel_rfl) (by kernel_rfl) (fun _ _ _ h => h) (Or.inl ⟨by go_simp, ?hy⟩) HSS ?_
    case hy => intro W hW; go_simp; (try with_reducible rfl)
    try simp only [List.getElem_toArray, List.getElem_cons_zero, List.getElem_cons_succ, Act.put, List.setIfInBounds_toArray, List.set_cons_zero, List.set_cons_succ]
    refine wpAnyH_take (i := 8) (v := ?_) rfl (by kernel_rfl) (by kernel_rfl) (by kernel_rfl) (fun _ _ _ h => h) (Or.inl ⟨by go_simp, ?hy⟩) HSS ?_
    case hy => intro W hW; go_simp; (try with_reducible rfl)
    try simp only [List.getElem_toArray, List.getElem_cons_zero, List.getElem_cons_succ, Act.put, List.setIfInBounds_toArray, List.set_cons_zero, List.set_cons_succ]
    refine wpAnyH_done (by kernel_rfl) ?_ _
    clear HSS
    go_wp2_with fail
    refine bodyPost_ret (v := .tuple #[.int .u32 (x : Int), .slice A2 m m, .bool true]) (by (simp [results, Tryz.results14, go_sem]); try rfl) rfl ?_
    refine ⟨HB5.out.trans (Below.refl _ _).drew, .inr ⟨acc, A2, k, HD.out, ?_, ?_, ?_⟩⟩
    · rw [HM.out, HX.out]
    · rw [HM.out]; exact HCK.out
    · rw [HM.out]
      have := own_below HO5.out (Below.refl W.heap.size W).drew
      exact own_mono this HBS3.out
end Go.Proofs.YtfolamkjlgpgmaaGreatDoor
