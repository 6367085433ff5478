/- A list of addresses read: the walk. No condition but that the bytes are bytes. (Printed by gTellS.py.) -/
import Derived.Test.YtfolamkjlgpgmaaGreatDoorTellU
namespace Go.Proofs.YtfolamkjlgpgmaaGreatDoor
open Go.RowKit
set_option linter.unusedVariables false
set_option linter.unusedSimpArgs false
set_option maxRecDepth 100000 in
set_option maxHeartbeats 1000000 in
theorem num49_badk {p : Nat} {A : Option Addr} {c : Nat} {fr : Bool} (w : World) (n k : Nat) (h : w.heap[p]? = some (.cells #[.slice A n c, .bool fr] 119 (0, 0))) (hk : 0 < k) (hk8 : k ≤ 8) (hn : n < k ∨ fr = false) :
    Calls Tryz.prog 34 #[.pointer (some ⟨p, 0, none⟩), .int .i64 (k : Int)] w fun e w' => e = .returned (.int .u64 0) ∧ CutBad w' p ∧ ∃ o, Turned p o w w' := by
  have HT := Lib.hid (take78_bad (k : Int) w h (by rcases hn with hn | hn; exact .inr (.inl (by omega)); exact .inr (.inr hn)))
  have t1 : ¬ (k : Int) < 1 := by omega
  have t2 : ¬ (8 : Int) < (k : Int) := by omega
  clear h hn
  go_enter Tryz.func34, Tryz.ntmps34
  go_wp2_with fail
  refine (HT.out).mono ?_
  rintro e w1 ⟨rfl, h1, o, ht⟩
  have HC := Lib.hid h1
  have HO := Lib.hid ht
  clear h1 ht HT
  go_wp2_with fail
  go_loop [4, 17] (fun v i => i = .int .i64 0 ∧ v = .int .u64 0) (fun _ i => (1 - intOf i).toNat)
  case atStart => exact ⟨rfl, rfl⟩
  case round =>
    obtain ⟨rfl, rfl⟩ := hrel
    go_wp2_with fail
    go_ret
    exact ⟨rfl, HC.out, o, HO.out⟩
/-- a cutter that is spoilt, and the box of an option -/
structure CB (w0 : World) (q kd : Nat) (v : Value) (p : Nat) (W : World) : Prop where
  cut : CutBad W p
  box : W.heap[q]? = some (.cells #[.int .u8 (kd : Int), v] 24 (0, 0))
  low : w0.heap.size ≤ p
  ne : q ≠ p
  below : Below w0.heap.size w0 W
theorem CS.spoil {w0 W W' : World} {q kd p g c pos : Nat} {v : Value} {bs : List Nat} {o : Obj} (h : CS w0 q kd v p g c pos bs W) (hc : CutBad W' p) (ht : Turned p o W W') : CB w0 q kd v p W' :=
  ⟨hc, ht.keep h.box h.ne, h.low, h.ne, h.below.trans (ht.below h.low)⟩
theorem CB.again {w0 W W' : World} {q kd p : Nat} {v : Value} {o : Obj} (h : CB w0 q kd v p W) (hc : CutBad W' p) (ht : Turned p o W W') : CB w0 q kd v p W' :=
  ⟨hc, ht.keep h.box h.ne, h.low, h.ne, h.below.trans (ht.below h.low)⟩
theorem CS.grown {w0 W W' : World} {q kd p g c pos : Nat} {v : Value} {bs : List Nat} {row : Option Nat} (h : CS w0 q kd v p g c pos bs W) (hg : W.grownBy W' row) (hr : ∀ k, row = some k → k ≠ p ∧ (bs ≠ [] → k ≠ g) ∧ k ≠ q ∧ w0.heap.size ≤ k) : CS w0 q kd v p g c pos bs W' :=
  ⟨h.cut.grown hg (fun k hk => ⟨(hr k hk).1, (hr k hk).2.1⟩), (hg.block q (lt_of_blk h.box) (fun e => (hr q e.symm).2.2.1 rfl)).trans h.box, h.low, h.ne, Below.grown' h.below hg h.below.size (fun k hk => (hr k hk).2.2.2)⟩
/-- the addresses that a list's bytes say -/
def adN (l : List Nat) : Nat := (l.length - 6) / 16
def adrAt (l : List Nat) (k : Nat) : Nat → Nat := fun j => l.getD (6 + 16 * k + j) 0
def adrsOf (l : List Nat) (n : Nat) : List (Nat → Nat) := (List.range n).map (adrAt l)
theorem adrsOf_length (l : List Nat) (n : Nat) : (adrsOf l n).length = n := by simp [adrsOf]
theorem adrsOf_succ (l : List Nat) (n : Nat) : row8 (adrsB (adrsOf l (n + 1))) = row8 (adrsB (adrsOf l n)) ++ row8 (adr16 (adrAt l n)) := by
  have e : adrsOf l (n + 1) = adrsOf l n ++ [adrAt l n] := by simp [adrsOf, List.range_succ]
  rw [e, rowA_split]
  congr 1
/-- while a list is read -/
structure SL (w0 : World) (q kd : Nat) (v : Value) (p g c : Nat) (l : List Nat) (t x pos i : Nat) (A : Option Addr) (cap : Nat) (W : World) : Prop where
  cs : CS w0 q kd v p g c pos l W
  box : W.heap[t]? = some (.cells #[.int .u32 (x : Int), .slice A i cap] 79 (0, 0))
  own : W.ownsRow (t + 1) 32 16 (.slice A i cap) i (row8 (adrsB (adrsOf l i)))
  tp : p < t
  tq : q < t
  tg : l ≠ [] → g < t
  low : w0.heap.size ≤ t
theorem SL.step {w0 W W' : World} {q kd p g c t x pos i cap : Nat} {v : Value} {l : List Nat} {A : Option Addr} (h : SL w0 q kd v p g c l t x pos i A cap W) (hb : Below W.heap.size W W') : SL w0 q kd v p g c l t x pos i A cap W' :=
  ⟨h.cs.step hb, (hb.block _ (lt_of_blk h.box)).trans h.box, own_below h.own hb, h.tp, h.tq, h.tg, h.low⟩
theorem SL.turn {w0 W W' : World} {q kd p g c t x pos pos' i cap : Nat} {v : Value} {l : List Nat} {A : Option Addr} {o : Obj} (h : SL w0 q kd v p g c l t x pos i A cap W) (hc : CutAt W' p g c pos' l) (ht : Turned p o W W') : SL w0 q kd v p g c l t x pos' i A cap W' := by
  have htp := h.tp
  refine ⟨h.cs.turn hc ht, ht.keep h.box (by omega), h.own.kept ht.grown ?_, h.tp, h.tq, h.tg, h.low⟩
  cases hv : (Value.slice A i cap).ownBlock with
  | none => exact .inl rfl
  | some k => right; intro e; cases e; have := (h.own.lt _ hv).1; omega
theorem SL.add {w0 W W' : World} {q kd p g c t x pos i cap cap' : Nat} {v : Value} {l : List Nat} {A A' : Option Addr} (h : SL w0 q kd v p g c l t x pos i A cap W) (hg : W.grownBy W' (Value.slice A i cap).ownBlock)
    (ho : W'.ownsRow (t + 1) 32 16 (.slice A' (i + 1) cap') (i + 1) (row8 (adrsB (adrsOf l (i + 1))))) :
    W'.heap[t]? = some (.cells #[.int .u32 (x : Int), .slice A i cap] 79 (0, 0)) ∧ CutAt W' p g c pos l ∧ SL w0 q kd v p g c l t x pos (i + 1) A' cap' (W'.setCell ⟨t, 1, none⟩ (.slice A' (i + 1) cap')) := by
  have htp := h.tp; have htq := h.tq; have htg := h.tg; have hlow := h.low
  have hk : ∀ k, (Value.slice A i cap).ownBlock = some k → t + 1 ≤ k := fun k e => (h.own.lt k e).1
  have hcs : CS w0 q kd v p g c pos l W' := h.cs.grown hg (fun k e => by
    have := hk k e
    exact ⟨by omega, fun hl => by have := htg hl; omega, by omega, by omega⟩)
  have hbox : W'.heap[t]? = some (.cells #[.int .u32 (x : Int), .slice A i cap] 79 (0, 0)) := (hg.block t (lt_of_blk h.box) (fun e => by have := hk t e.symm; omega)).trans h.box
  have t0 := Turned.setCell hbox 1 (.slice A' (i + 1) cap')
  simp only [List.setIfInBounds_toArray, List.set_cons_zero, List.set_cons_succ] at t0
  refine ⟨hbox, hcs.cut, ?_, t0.get (lt_of_blk hbox), ho.kept t0.grown ?_, htp, htq, htg, hlow⟩
  · exact hcs.of_turn t0 hlow (by omega) (by omega) (fun hl => by have := htg hl; omega)
  · cases hv : (Value.slice A' (i + 1) cap').ownBlock with
    | none => exact .inl rfl
    | some k => right; intro e; cases e; have := (ho.lt _ hv).1; omega
/-- what the reader of a list gives -/
def SrvPost (w0 w : World) (q kd : Nat) (v : Value) (p g c : Nat) (l : List Nat) (r : Bool) (e : Ending) (w' : World) : Prop :=
  (r = true ∧ ∃ A k, e = .returned (.tuple #[.agg #[.int .u32 (num1 l 2 4 : Nat), .slice A (adN l) k], .bool true]) ∧ CS w0 q kd v p g c l.length l w' ∧ w'.ownsRow w.heap.size 32 16 (.slice A (adN l) k) (adN l) (row8 (adrsB (adrsOf l (adN l))))) ∨
  (r = false ∧ ∃ (x : Nat) (A : Option Addr) (n k : Nat), e = .returned (.tuple #[.agg #[.int .u32 (x : Int), .slice A n k], .bool false]) ∧ Below w0.heap.size w0 w')
theorem SL.same {w0 W W' : World} {q kd p g c t x pos i cap : Nat} {v : Value} {l : List Nat} {A : Option Addr} (h : SL w0 q kd v p g c l t x pos i A cap W) (ht : Turned t (.cells #[.int .u32 (x : Int), .slice A i cap] 79 (0, 0)) W W') : SL w0 q kd v p g c l t x pos i A cap W' := by
  have htp := h.tp; have htq := h.tq; have htg := h.tg
  refine ⟨h.cs.of_turn ht h.low (by omega) (by omega) (fun hl => by have := htg hl; omega), ht.get (lt_of_blk h.box), h.own.kept ht.grown ?_, h.tp, h.tq, h.tg, h.low⟩
  cases hv : (Value.slice A i cap).ownBlock with
  | none => exact .inl rfl
  | some k => right; intro e; cases e; have := (h.own.lt _ hv).1; omega
theorem range_of {W : World} {p g c pos pos' : Nat} {l : List Nat} {a : Nat → Nat} (h : CutAt W p g c pos' l) (hla : ∀ j, j < 16 → l[pos + j]? = some (a j)) : W.rangeAt g pos [.int .u8 (a 0 : Int), .int .u8 (a 1 : Int), .int .u8 (a 2 : Int), .int .u8 (a 3 : Int), .int .u8 (a 4 : Int), .int .u8 (a 5 : Int), .int .u8 (a 6 : Int), .int .u8 (a 7 : Int), .int .u8 (a 8 : Int), .int .u8 (a 9 : Int), .int .u8 (a 10 : Int), .int .u8 (a 11 : Int), .int .u8 (a 12 : Int), .int .u8 (a 13 : Int), .int .u8 (a 14 : Int), .int .u8 (a 15 : Int)] := fun j u hu => by
  have hj : j < 16 := by have := (List.getElem?_eq_some_iff.1 hu).1; simpa using this
  have h1 := adr16_get a hj
  have h2 : (row8 (adr16 a))[j]? = some u := hu
  rw [h1] at h2
  cases h2
  exact h.rd _ _ (hla j hj)
theorem sizeL127 (x i cap : Nat) (A : Option Addr) : (Tryz.prog.info? 79).map (·.size) = some (#[.int .u32 (x : Int), .slice A i cap] : Array Value).size := by kernel_rfl
theorem oneL127 (x i cap : Nat) (A : Option Addr) : (#[.int .u32 (x : Int), .slice A i cap] : Array Value).all (·.oneCell') = true := by simp [Value.oneCell']
set_option maxRecDepth 100000 in
set_option maxHeartbeats 8000000 in
theorem srv93 {w0 : World} {q kd p g c : Nat} {v : Value} {l : List Nat} (w : World) (h : CS w0 q kd v p g c 0 l w) (hmx : l.length ≤ 1000000000) (h256 : ∀ x ∈ l, x < 256) {r : Bool} (hr : (kd == 25 && decide (22 ≤ l.length ∧ l.length % 16 = 6)) = r) :
    Calls Tryz.prog 41 #[.pointer (some ⟨p, 0, none⟩), .pointer (some ⟨q, 0, none⟩)] w (SrvPost w0 w q kd v p g c l r) := by
  obtain ⟨i51, hi, hz0, hz1, hz2⟩ := info_parts info51
  have hz := heap_alloc_new w (.cells #[.int .u32 0, .slice none 0 0] 79)
  have hB := h.step ((Below.refl w.heap.size w).alloc (Nat.le_refl _) (.cells #[.int .u32 0, .slice none 0 0] 79))
  obtain ⟨A0, hp0, _⟩ := h.cut.at_
  have hg0 : l ≠ [] → g < w.heap.size := fun hl => lt_of_cell (h.cut.rd 0 (l[0]'(List.length_pos_iff.2 hl)) (List.getElem?_eq_getElem _))
  have hpl := lt_of_blk hp0
  obtain ⟨t, ht⟩ : ∃ t, t = w.heap.size := ⟨_, rfl⟩
  have hnt : p ≠ t := by omega
  have hpt : p < t := by omega
  have hlow : w0.heap.size ≤ t := by rw [ht]; exact h.below.size
  have hqt2 : q < t := by have := lt_of_blk h.box; omega
  have hqt : t ≠ q := by omega
  have hgt2 : l ≠ [] → g < t := fun hl => by have := hg0 hl; omega
  have hgt : l ≠ [] → t ≠ g := fun hl => by have := hgt2 hl; omega
  have HTW : Hid (w.heap.size ≤ t + 1) := Lib.hid (by omega)
  obtain ⟨V, hV⟩ : ∃ V, V = w.alloc (.cells #[.int .u32 0, .slice none 0 0] 79) := ⟨_, rfl⟩
  rw [← hV] at hz hB
  rw [← ht] at hz
  have HT := Lib.hid hz; have HS := Lib.hid hB; have HR := Lib.hid hr; have HMX := Lib.hid hmx; have H256 := Lib.hid h256
  have HN0 := Lib.hid ht
  clear hz hB hp0 hr hmx h256 h hg0
  go_enter Tryz.func41, Tryz.ntmps41
  go_upto_region 1 with (fail)
  rw [← hV, ← ht]
  clear hV ht hpl HN0
  by_cases h6 : 6 ≤ l.length
  · have HN := Lib.hid (num49_be (pos := 0) (k := 2) _ HS.out.cut (by decide) (by decide) (by omega) H256.out)
    go_wp2_with fail
    refine (HN.out).mono ?_
    rintro e w1 ⟨rfl, k1, o1, k2⟩
    obtain ⟨b0, eb0⟩ : ∃ b0, beN ((l.drop 0).take 2) = b0 := ⟨_, rfl⟩
    rw [eb0]
    have HT0 := Lib.hid (k2.keep HT.out hnt.symm)
    have HS0 : Hid (CS w0 q kd v p g c 2 l w1) := Lib.hid (HS.out.turn k1 k2)
    clear k1 k2 eb0 HN HT HS
    have HT := HT0
    have HS := HS0
    clear HT0 HS0
    have HN := Lib.hid (num49_be (pos := 2) (k := 4) _ HS.out.cut (by decide) (by decide) (by omega) H256.out)
    go_wp2_with fail
    refine (HN.out).mono ?_
    rintro e w2 ⟨rfl, k1, o1, k2⟩
    obtain ⟨x, ex⟩ : ∃ x, beN ((l.drop 2).take 4) = x := ⟨_, rfl⟩
    have EX := Lib.hid ex
    have hx4 : x < 4294967296 := by rw [← ex]; exact beN_lt (k := 4) (fun x hx => H256.out x (List.mem_of_mem_drop (List.mem_of_mem_take hx))) (by rw [List.length_take]; omega)
    rw [ex]
    have HT0 := Lib.hid (k2.keep HT.out hnt.symm)
    have HS0 : Hid (CS w0 q kd v p g c 6 l w2) := Lib.hid (HS.out.turn k1 k2)
    clear k1 k2 ex HN HT HS
    have HT := HT0
    have HS := HS0
    clear HT0 HS0
    have z0 := cell_blk HT.out 0
    have f0 := frozen_blk HT.out 0
    simp only [List.getElem?_toArray, List.getElem?_cons_zero, List.getElem?_cons_succ] at z0
    have t0 := Turned.setCell HT.out 0 (.int .u32 (x : Int))
    simp only [List.setIfInBounds_toArray, List.set_cons_zero, List.set_cons_succ] at t0
    have HL0 : Hid (SL w0 q kd v p g c l t x 6 0 none 0 (w2.setCell ⟨t, 0, none⟩ (.int .u32 (x : Int)))) := Lib.hid ⟨HS.out.of_turn t0 hlow hqt hnt.symm hgt, t0.get (lt_of_blk HT.out), World.ownsRow_nil _ _ _ _, hpt, hqt2, hgt2, hlow⟩
    have HX4 := Lib.hid hx4
    clear t0 HT HS
    obtain ⟨u1, hu1⟩ : ∃ u1, u1 = w2.setCell ⟨t, 0, none⟩ (.int .u32 (x : Int)) := ⟨_, rfl⟩
    rw [← hu1] at HL0
    go_wp2_with fail
    rw [← hu1]
    clear hu1 hx4 z0 f0
    go_loopw [5] (fun b wr => ∃ i A cap, SL w0 q kd v p g c l t x (6 + 16 * i) i A cap wr) (fun _ wr => leftN wr p)
    case atStart => exact ⟨0, none, 0, HL0.out⟩
    case round =>
      clear HL0
      obtain ⟨i, A, cap, hL⟩ := hrel
      have HL := Lib.hid hL
      obtain ⟨Ap, hp1, -⟩ := hL.cs.cut.at_
      have hle := hL.cs.cut.le
      have HLW := Lib.hid (left48 _ hp1)
      have HP1 := Lib.hid hp1
      have HM := Lib.hid hL.cs.cut.left
      have hmx := HMX.out
      have HLE := Lib.hid hle
      clear hp1 hL
      by_cases hlt : 6 + 16 * i < l.length
      · have hpos : (0 : Int) < ((l.length - (6 + 16 * i) : Nat) : Int) := by omega
        go_wp2_with fail
        refine (HLW.out).mono ?_
        rintro e w3 ⟨rfl, rfl⟩
        obtain ⟨n, hn⟩ : ∃ n, l.length - (6 + 16 * i) = n := ⟨_, rfl⟩
        by_cases h16 : 6 + 16 * i + 16 ≤ l.length
        · have HB := Lib.hid (bytes50_ok 16 _ HL.out.cs.cut (by decide) h16)
          obtain ⟨pos, epos⟩ : ∃ pos, pos = 6 + 16 * i := ⟨_, rfl⟩
          have EP := Lib.hid epos
          rw [← epos] at HB
          have HLT := Lib.hid hlt
          clear hpos hlt epos hn HLW HP1
          go_wp2_with fail
          refine (HB.out).mono ?_
          rintro e w4 ⟨rfl, k1, o1, k2⟩
          have H5 : Hid (SL w0 q kd v p g c l t x (pos + 16) i A cap w4) := Lib.hid (HL.out.turn k1 k2)
          obtain ⟨A5, hp5, -⟩ := k1.at_
          have HBAD := Lib.hid (bad51 _ hp5)
          clear k1 k2 hp5 HB HL
          go_wp2_with fail
          refine (HBAD.out).mono ?_
          rintro e w5 ⟨rfl, rfl⟩
          obtain ⟨w5, hw5⟩ : ∃ w5, w5 = w4 := ⟨_, rfl⟩
          subst hw5
          clear HBAD
          go_upto_region 12 with (fail)
          obtain ⟨a, ea⟩ : ∃ a, a = adrAt l i := ⟨_, rfl⟩
          have HEA := Lib.hid ea
          have hla : ∀ j, j < 16 → l[pos + j]? = some (a j) := fun j hj => by
            rw [ea, EP.out]; unfold adrAt; rw [List.getD_eq_getElem?_getD, List.getElem?_eq_getElem (by omega)]; rfl
          have HLA := Lib.hid hla
          have HD := Lib.hid (H5.out.step (Below.refl _ _).drew)
          have hal : Below w5.drew.heap.size w5.drew (w5.drew.alloc (.cells (row8 (adr16 a)).toArray 32)) := (Below.refl _ _).alloc (Nat.le_refl _) _
          have HA := Lib.hid (HD.out.step hal)
          have HAD : Hid (∀ i u, (row8 (adr16 a))[i]? = some u → (w5.drew.alloc (.cells (row8 (adr16 a)).toArray 32)).cell? ((⟨w5.drew.heap.size, 0, none⟩ : Addr).add i) = some u) := Lib.hid (by
            intro i u hu
            rw [Addr.add_mid, Nat.zero_add, cell_blk (heap_alloc_new _ _), List.getElem?_toArray]
            exact hu)
          have hS := range_of HD.out.cs.cut HLA.out
          clear ea hla hal
          refine wp_region_held_drew (S := fun W => W.rangeAt g pos [.int .u8 (a 0 : Int), .int .u8 (a 1 : Int), .int .u8 (a 2 : Int), .int .u8 (a 3 : Int), .int .u8 (a 4 : Int), .int .u8 (a 5 : Int), .int .u8 (a 6 : Int), .int .u8 (a 7 : Int), .int .u8 (a 8 : Int), .int .u8 (a 9 : Int), .int .u8 (a 10 : Int), .int .u8 (a 11 : Int), .int .u8 (a 12 : Int), .int .u8 (a 13 : Int), .int .u8 (a 14 : Int), .int .u8 (a 15 : Int)]) (by kernel_rfl) hS ?_
          clear hS
          intro HSS
          refine wpAnyH_take (i := 0) (v := ?_) rfl (by kernel_rfl) (by kernel_rfl) (by kernel_rfl) (fun _ _ _ h => h) (Or.inl ⟨by go_simp, ?hy⟩) HSS ?_
          case hy => intro W hW; go_simp; (try with_reducible rfl)
          try simp only [List.getElem_toArray, List.getElem_cons_zero, List.getElem_cons_succ, Act.put, List.setIfInBounds_toArray, List.set_cons_zero, List.set_cons_succ]
          refine wpAnyH_take (i := 2) (v := ?_) rfl (by kernel_rfl) (by kernel_rfl) (by kernel_rfl) (fun _ _ _ h => h) (Or.inl ⟨by go_simp, ?hy⟩) HSS ?_
          case hy => intro W hW; go_simp; (try with_reducible rfl)
          try simp only [List.getElem_toArray, List.getElem_cons_zero, List.getElem_cons_succ, Act.put, List.setIfInBounds_toArray, List.set_cons_zero, List.set_cons_succ]
          refine wpAnyH_take (i := 3) (v := ?_) rfl (by kernel_rfl) (by kernel_rfl) (by kernel_rfl) (fun _ _ _ h => h) (Or.inl ⟨by go_simp, ?hy⟩) HSS ?_
          case hy => intro W hW; have ha := arr51 ⟨g, pos, none⟩ W; go_simp; (try with_reducible rfl)
          try simp only [List.getElem_toArray, List.getElem_cons_zero, List.getElem_cons_succ, Act.put, List.setIfInBounds_toArray, List.set_cons_zero, List.set_cons_succ]
          refine wpAnyH_take (i := 4) (v := .agg #[.int .u8 (a 0 : Int), .int .u8 (a 1 : Int), .int .u8 (a 2 : Int), .int .u8 (a 3 : Int), .int .u8 (a 4 : Int), .int .u8 (a 5 : Int), .int .u8 (a 6 : Int), .int .u8 (a 7 : Int), .int .u8 (a 8 : Int), .int .u8 (a 9 : Int), .int .u8 (a 10 : Int), .int .u8 (a 11 : Int), .int .u8 (a 12 : Int), .int .u8 (a 13 : Int), .int .u8 (a 14 : Int), .int .u8 (a 15 : Int)]) rfl (by kernel_rfl) (by kernel_rfl) (by kernel_rfl) (fun _ _ _ h => h) (by refine yieldsIf_load_mid ?_ 32 (.tmp 23) rfl g pos ?_ [.int .u8 (a 0 : Int), .int .u8 (a 1 : Int), .int .u8 (a 2 : Int), .int .u8 (a 3 : Int), .int .u8 (a 4 : Int), .int .u8 (a 5 : Int), .int .u8 (a 6 : Int), .int .u8 (a 7 : Int), .int .u8 (a 8 : Int), .int .u8 (a 9 : Int), .int .u8 (a 10 : Int), .int .u8 (a 11 : Int), .int .u8 (a 12 : Int), .int .u8 (a 13 : Int), .int .u8 (a 14 : Int), .int .u8 (a 15 : Int)] _ (fun W hW => hW) Tryz.underlying32 rfl size51; (go_simp); (go_simp)) HSS ?_
          try simp only [List.getElem_toArray, List.getElem_cons_zero, List.getElem_cons_succ, Act.put, List.setIfInBounds_toArray, List.set_cons_zero, List.set_cons_succ]
          refine wpAnyH_ready (rs := [1, 5]) (by kernel_rfl) (by simp) ?_
          refine AllReadyH.cons rfl (fun K hK => ?_) (AllReadyH.cons rfl (fun K hK => ?_) AllReadyH.nil)
          · rw [if_pos (by kernel_rfl)]
            simp only [List.getElem_toArray, List.getElem_cons_zero, List.getElem_cons_succ]
            have c1 := cell_blk HD.out.box 1
            simp only [List.getElem?_toArray, List.getElem?_cons_zero, List.getElem?_cons_succ] at c1
            go_simp
            refine hK.out _ _ HSS (fun HSS => ?_)
            clear hK c1
            try simp only [List.getElem_toArray, List.getElem_cons_zero, List.getElem_cons_succ, Act.put, List.setIfInBounds_toArray, List.set_cons_zero, List.set_cons_succ]
            refine wpAnyH_ready (rs := [5]) (by kernel_rfl) (by simp) ?_
            refine AllReadyH.cons rfl (fun K hK => ?_) AllReadyH.nil
            rw [if_pos (by kernel_rfl)]
            simp only [List.getElem_toArray, List.getElem_cons_zero, List.getElem_cons_succ]
            go_simp
            refine hK.out _ _ (range_of HA.out.cs.cut HLA.out) (fun HSS => ?_)
            clear hK
            try simp only [List.getElem_toArray, List.getElem_cons_zero, List.getElem_cons_succ, Act.put, List.setIfInBounds_toArray, List.set_cons_zero, List.set_cons_succ]
            refine wpAnyH_ready (rs := [6]) (by kernel_rfl) (by simp) ?_
            refine AllReadyH.cons rfl (fun K hK => ?_) AllReadyH.nil
            rw [if_pos (by kernel_rfl)]
            simp only [List.getElem_toArray, List.getElem_cons_zero, List.getElem_cons_succ]
            refine wp_append_own _ (.tmp 21) (.tmp 25) 42 rfl (t + 1) 32 i51 (.agg #[.int .u8 0, .int .u8 0, .int .u8 0, .int .u8 0, .int .u8 0, .int .u8 0, .int .u8 0, .int .u8 0, .int .u8 0, .int .u8 0, .int .u8 0, .int .u8 0, .int .u8 0, .int .u8 0, .int .u8 0, .int .u8 0]) 16 16 Tryz.underlying42 hi hz0 hz1 hz2 rfl (by decide) _ i _ rfl HA.out.own ⟨w5.drew.heap.size, 0, none⟩ 1 1 (row8 (adr16 a)) rfl rfl HAD.out (row8_one _) (by unfold maxLen; omega) (by omega) (lt_of_blk HA.out.box) ?_
            intro v6 w6 ho6 hg6 _
            obtain ⟨A6, c6, rfl, hc6⟩ := own_slice2 ho6
            have h6 := HA.out.add hg6 (by rw [adrsOf_succ, ← HEA.out]; exact ho6)
            have HB6 := Lib.hid h6.1
            have HC6 := Lib.hid h6.2.1
            have H6 := Lib.hid h6.2.2
            refine hK.out _ _ (range_of HC6.out HLA.out) (fun HSS => ?_)
            clear hK ho6 hg6 h6 hc6
            try simp only [List.getElem_toArray, List.getElem_cons_zero, List.getElem_cons_succ, Act.put, List.setIfInBounds_toArray, List.set_cons_zero, List.set_cons_succ]
            refine wpAnyH_take (i := 7) (v := ?_) rfl (by kernel_rfl) (by kernel_rfl) (by kernel_rfl) (fun _ _ _ h => h) (Or.inl ⟨by go_simp, ?hy⟩) HSS ?_
            case hy => intro W hW; go_simp; (try with_reducible rfl)
            try simp only [List.getElem_toArray, List.getElem_cons_zero, List.getElem_cons_succ, Act.put, List.setIfInBounds_toArray, List.set_cons_zero, List.set_cons_succ]
            refine wpAnyH_ready (rs := [8]) (by kernel_rfl) (by simp) ?_
            refine AllReadyH.cons rfl (fun K hK => ?_) AllReadyH.nil
            rw [if_pos (by kernel_rfl)]
            simp only [List.getElem_toArray, List.getElem_cons_zero, List.getElem_cons_succ]
            have z1 := cell_blk HB6.out 1
            have f1 := frozen_blk HB6.out 1
            simp only [List.getElem?_toArray, List.getElem?_cons_zero, List.getElem?_cons_succ] at z1
            go_simp
            refine hK.out _ _ (range_of H6.out.cs.cut HLA.out) (fun HSS => ?_)
            clear hK z1 f1
            try simp only [List.getElem_toArray, List.getElem_cons_zero, List.getElem_cons_succ, Act.put, List.setIfInBounds_toArray, List.set_cons_zero, List.set_cons_succ]
            refine wpAnyH_done (by kernel_rfl) ?_ _
            clear HSS
            go_wp2_with fail
            go_roundw
            case rel => exact ⟨i + 1, A6, c6, by have := H6.out; rw [EP.out, show 6 + 16 * i + 16 = 6 + 16 * (i + 1) by omega] at this; exact this⟩
            case measure => have hm2 := H6.out.cs.cut.left; have := HM.out; have := EP.out; have := HLT.out; omega
          · rw [if_pos (by kernel_rfl)]
            simp only [List.getElem_toArray, List.getElem_cons_zero, List.getElem_cons_succ]
            go_simp
            refine hK.out _ _ (range_of HA.out.cs.cut HLA.out) (fun HSS => ?_)
            clear hK
            try simp only [List.getElem_toArray, List.getElem_cons_zero, List.getElem_cons_succ, Act.put, List.setIfInBounds_toArray, List.set_cons_zero, List.set_cons_succ]
            show wpAnyH _ _ _ _ _ _ _ _ (w5.drew.alloc (.cells (row8 (adr16 a)).toArray 32))
            obtain ⟨W6, hW6⟩ : ∃ W6, W6 = w5.drew.alloc (.cells (row8 (adr16 a)).toArray 32) := ⟨_, rfl⟩
            have hszw : w5.drew.heap.size < W6.heap.size := by rw [hW6]; simp
            have HSS := range_of HA.out.cs.cut HLA.out
            rw [← hW6] at HA HAD HSS ⊢
            clear hW6
            refine wpAnyH_ready (rs := [1]) (by kernel_rfl) (by simp) ?_
            refine AllReadyH.cons rfl (fun K hK => ?_) AllReadyH.nil
            rw [if_pos (by kernel_rfl)]
            simp only [List.getElem_toArray, List.getElem_cons_zero, List.getElem_cons_succ]
            have c1 := cell_blk HA.out.box 1
            simp only [List.getElem?_toArray, List.getElem?_cons_zero, List.getElem?_cons_succ] at c1
            go_simp
            refine hK.out _ _ HSS (fun HSS => ?_)
            clear hK c1
            try simp only [List.getElem_toArray, List.getElem_cons_zero, List.getElem_cons_succ, Act.put, List.setIfInBounds_toArray, List.set_cons_zero, List.set_cons_succ]
            refine wpAnyH_ready (rs := [6]) (by kernel_rfl) (by simp) ?_
            refine AllReadyH.cons rfl (fun K hK => ?_) AllReadyH.nil
            rw [if_pos (by kernel_rfl)]
            simp only [List.getElem_toArray, List.getElem_cons_zero, List.getElem_cons_succ]
            refine wp_append_own _ (.tmp 21) (.tmp 25) 42 rfl (t + 1) 32 i51 (.agg #[.int .u8 0, .int .u8 0, .int .u8 0, .int .u8 0, .int .u8 0, .int .u8 0, .int .u8 0, .int .u8 0, .int .u8 0, .int .u8 0, .int .u8 0, .int .u8 0, .int .u8 0, .int .u8 0, .int .u8 0, .int .u8 0]) 16 16 Tryz.underlying42 hi hz0 hz1 hz2 rfl (by decide) _ i _ rfl HA.out.own ⟨w5.drew.heap.size, 0, none⟩ 1 1 (row8 (adr16 a)) rfl rfl HAD.out (row8_one _) (by unfold maxLen; omega) (by omega) (lt_of_blk HA.out.box) ?_
            intro v6 w6 ho6 hg6 _
            obtain ⟨A6, c6, rfl, hc6⟩ := own_slice2 ho6
            have h6 := HA.out.add hg6 (by rw [adrsOf_succ, ← HEA.out]; exact ho6)
            have HB6 := Lib.hid h6.1
            have HC6 := Lib.hid h6.2.1
            have H6 := Lib.hid h6.2.2
            refine hK.out _ _ (range_of HC6.out HLA.out) (fun HSS => ?_)
            clear hK ho6 hg6 h6 hc6
            try simp only [List.getElem_toArray, List.getElem_cons_zero, List.getElem_cons_succ, Act.put, List.setIfInBounds_toArray, List.set_cons_zero, List.set_cons_succ]
            refine wpAnyH_take (i := 7) (v := ?_) rfl (by kernel_rfl) (by kernel_rfl) (by kernel_rfl) (fun _ _ _ h => h) (Or.inl ⟨by go_simp, ?hy⟩) HSS ?_
            case hy => intro W hW; go_simp; (try with_reducible rfl)
            try simp only [List.getElem_toArray, List.getElem_cons_zero, List.getElem_cons_succ, Act.put, List.setIfInBounds_toArray, List.set_cons_zero, List.set_cons_succ]
            refine wpAnyH_ready (rs := [8]) (by kernel_rfl) (by simp) ?_
            refine AllReadyH.cons rfl (fun K hK => ?_) AllReadyH.nil
            rw [if_pos (by kernel_rfl)]
            simp only [List.getElem_toArray, List.getElem_cons_zero, List.getElem_cons_succ]
            have z1 := cell_blk HB6.out 1
            have f1 := frozen_blk HB6.out 1
            simp only [List.getElem?_toArray, List.getElem?_cons_zero, List.getElem?_cons_succ] at z1
            go_simp
            refine hK.out _ _ (range_of H6.out.cs.cut HLA.out) (fun HSS => ?_)
            clear hK z1 f1
            try simp only [List.getElem_toArray, List.getElem_cons_zero, List.getElem_cons_succ, Act.put, List.setIfInBounds_toArray, List.set_cons_zero, List.set_cons_succ]
            refine wpAnyH_done (by kernel_rfl) ?_ _
            clear HSS
            go_wp2_with fail
            go_roundw
            case rel => exact ⟨i + 1, A6, c6, by have := H6.out; rw [EP.out, show 6 + 16 * i + 16 = 6 + 16 * (i + 1) by omega] at this; exact this⟩
            case measure => have hm2 := H6.out.cs.cut.left; have := HM.out; have := EP.out; have := HLT.out; omega
        · have HB := Lib.hid (bytes50_bad 16 _ HP1.out (.inr (.inl (by omega))))
          have er : r = false := by rw [← HR.out, Bool.and_eq_false_iff]; right; rw [decide_eq_false_iff_not]; omega
          subst er
          clear hn HLW HP1 hlt h16
          go_wp2_with fail
          refine (HB.out).mono ?_
          rintro e w4 ⟨rfl, k1, o1, k2⟩
          have HBB := Lib.hid (HL.out.cs.below.trans (k2.below HL.out.cs.low))
          have HX : Hid (w4.heap[t]? = some (.cells #[.int .u32 (x : Int), .slice A i cap] 79 (0, 0))) := Lib.hid (k2.keep HL.out.box (by have := HL.out.tp; omega))
          have HBAD := Lib.hid (bad51 _ k1)
          have HSZ := Lib.hid (sizeL127 x i cap A)
          have H1Z := Lib.hid (oneL127 x i cap A)
          clear k1 k2 HB HL
          go_wp2_with fail
          refine (HBAD.out).mono ?_
          rintro e w5 ⟨rfl, rfl⟩
          go_wp2_with (first | (refine wpList_load_row rfl 79 _ rfl t rfl 79 _ (0, 0) _ HX.out Tryz.underlying79 rfl HSZ.out ?_) | (refine wpList_store_row rfl 79 _ _ rfl t #[.int .u32 (x : Int), .slice A i cap] rfl rfl 79 _ HX.out HSZ.out rfl H1Z.out ?_))
          have t9 := Turned.setRow HX.out #[.int .u32 (x : Int), .slice A i cap]
          refine bodyPost_ret (results_row_tmp Tryz.results41 _ _ t 79 _ (0, 0) _ rfl (t9.get (lt_of_blk HX.out)) Tryz.underlying79 rfl HSZ.out) rfl ?_
          exact .inr ⟨rfl, x, A, i, cap, rfl, HBB.out.trans (t9.below hlow)⟩
      · have e0 : l.length - (6 + 16 * i) = 0 := by omega
        rw [e0] at HLW
        have hel : l.length = 6 + 16 * i := by omega
        have HEL := Lib.hid hel
        go_wp2_with fail
        refine (HLW.out).mono ?_
        rintro e w3 ⟨rfl, rfl⟩
        have HX := Lib.hid HL.out.box
        have HSZ := Lib.hid (sizeL127 x i cap A)
        have H1Z := Lib.hid (oneL127 x i cap A)
        have c0 := cell_blk HL.out.cs.box 0
        have d1 := cell_blk HL.out.box 1
        simp only [List.getElem?_toArray, List.getElem?_cons_zero, List.getElem?_cons_succ] at c0 d1
        clear HLW e0 hel
        by_cases k25 : kd = 25
        · have t1 : ((kd : Int) == 25) = true := by simp; omega
          have K25 := Lib.hid k25
          clear k25
          by_cases hi0 : 0 < i
          · have t3 : (0 : Int) < (i : Int) := by omega
            have er : r = true := by rw [← HR.out, Bool.and_eq_true_iff]; exact ⟨by simp [K25.out], by rw [decide_eq_true_iff]; have := HEL.out; omega⟩
            subst er
            go_wp2_with (first | (refine wpList_load_row rfl 79 _ rfl t rfl 79 _ (0, 0) _ HX.out Tryz.underlying79 rfl HSZ.out ?_) | (refine wpList_store_row rfl 79 _ _ rfl t #[.int .u32 (x : Int), .slice A i cap] rfl rfl 79 _ HX.out HSZ.out rfl H1Z.out ?_))
            have t9 := Turned.setRow HX.out #[.int .u32 (x : Int), .slice A i cap]
            refine bodyPost_ret (results_row_tmp Tryz.results41 _ _ t 79 _ (0, 0) _ rfl (t9.get (lt_of_blk HX.out)) Tryz.underlying79 rfl HSZ.out) rfl ?_
            have hL9 := HL.out.same t9
            obtain rfl : i = adN l := by unfold adN; have := HEL.out; omega
            have hcs9 := hL9.cs
            have hel2 : 6 + 16 * adN l = l.length := HEL.out.symm
            rw [hel2] at hcs9
            refine .inl ⟨rfl, A, cap, ?_, hcs9, own_mono hL9.own HTW.out⟩
            unfold num1
            rw [EX.out]
            rfl
          · obtain rfl : i = 0 := by omega
            have er : r = false := by rw [← HR.out, Bool.and_eq_false_iff]; right; rw [decide_eq_false_iff_not]; have := HEL.out; omega
            subst er
            go_wp2_with (first | (refine wpList_load_row rfl 79 _ rfl t rfl 79 _ (0, 0) _ HX.out Tryz.underlying79 rfl HSZ.out ?_) | (refine wpList_store_row rfl 79 _ _ rfl t #[.int .u32 (x : Int), .slice A 0 cap] rfl rfl 79 _ HX.out HSZ.out rfl H1Z.out ?_))
            have t9 := Turned.setRow HX.out #[.int .u32 (x : Int), .slice A 0 cap]
            refine bodyPost_ret (results_row_tmp Tryz.results41 _ _ t 79 _ (0, 0) _ rfl (t9.get (lt_of_blk HX.out)) Tryz.underlying79 rfl HSZ.out) rfl ?_
            exact .inr ⟨rfl, x, A, 0, cap, rfl, (HL.out.same t9).cs.below⟩
        · have t1 : ((kd : Int) == 25) = false := by simp; omega
          have er : r = false := by rw [← HR.out, Bool.and_eq_false_iff]; left; simp [k25]
          subst er
          clear k25
          go_wp2_with (first | (refine wpList_load_row rfl 79 _ rfl t rfl 79 _ (0, 0) _ HX.out Tryz.underlying79 rfl HSZ.out ?_) | (refine wpList_store_row rfl 79 _ _ rfl t #[.int .u32 (x : Int), .slice A i cap] rfl rfl 79 _ HX.out HSZ.out rfl H1Z.out ?_))
          have t9 := Turned.setRow HX.out #[.int .u32 (x : Int), .slice A i cap]
          refine bodyPost_ret (results_row_tmp Tryz.results41 _ _ t 79 _ (0, 0) _ rfl (t9.get (lt_of_blk HX.out)) Tryz.underlying79 rfl HSZ.out) rfl ?_
          exact .inr ⟨rfl, x, A, i, cap, rfl, (HL.out.same t9).cs.below⟩
  · obtain rfl : r = false := by rw [← HR.out, Bool.and_eq_false_iff]; right; rw [decide_eq_false_iff_not]; omega
    clear HTW HR hi hz0 hz1 hz2
    by_cases h2 : 2 ≤ l.length
    · have HN := Lib.hid (num49_be (pos := 0) (k := 2) _ HS.out.cut (by decide) (by decide) (by omega) H256.out)
      have hl6 : l.length - 2 < 4 := by omega
      go_wp2_with fail
      refine (HN.out).mono ?_
      rintro e w1 ⟨rfl, k1, o1, k2⟩
      obtain ⟨b0, eb0⟩ : ∃ b0, beN ((l.drop 0).take 2) = b0 := ⟨_, rfl⟩
      rw [eb0]
      have HT0 := Lib.hid (k2.keep HT.out hnt.symm)
      have HS0 : Hid (CS w0 q kd v p g c 2 l w1) := Lib.hid (HS.out.turn k1 k2)
      obtain ⟨A1, hp1, -⟩ := k1.at_
      have HN2 := Lib.hid (num49_badk _ _ 4 hp1 (by decide) (by decide) (.inl hl6))
      clear k1 k2 eb0 HN HT HS hp1
      go_wp2_with fail
      refine (HN2.out).mono ?_
      rintro e w2 ⟨rfl, k1, o1, k2⟩
      have HT := Lib.hid (k2.keep HT0.out hnt.symm)
      have HS := Lib.hid (HS0.out.spoil k1 k2)
      clear k1 k2 HN2 HT0 HS0 hl6
      have HX0 := Lib.hid HT.out
      have z0 := cell_blk HT.out 0
      have f0 := frozen_blk HT.out 0
      simp only [List.getElem?_toArray, List.getElem?_cons_zero, List.getElem?_cons_succ] at z0
      have t0 := Turned.setCell HT.out 0 (.int .u32 0)
      simp only [List.setIfInBounds_toArray, List.set_cons_zero, List.set_cons_succ] at t0
      have hst : (w2.setCell ⟨t, 0, none⟩ (.int .u32 0)).heap[p]? = some (.cells #[.slice none 0 0, .bool false] 119 (0, 0)) := t0.keep HS.out.cut hnt
      have hbx : (w2.setCell ⟨t, 0, none⟩ (.int .u32 0)).heap[q]? = some (.cells #[.int .u8 (kd : Int), v] 24 (0, 0)) := t0.keep HS.out.box hqt.symm
      have HP9 := Lib.hid hst
      have HQ9 := Lib.hid hbx
      have HX := Lib.hid (t0.get (lt_of_blk HT.out))
      have HB9 := Lib.hid (HS.out.below.trans (t0.below hlow))
      obtain ⟨u1, hu1⟩ : ∃ u1, u1 = w2.setCell ⟨t, 0, none⟩ (.int .u32 0) := ⟨_, rfl⟩
      rw [← hu1] at HP9 HQ9 HX HB9
      clear t0 hst hbx HT HS
      go_wp2_with fail
      rw [← hu1]
      clear hu1 z0 f0
      go_loopw [5] (fun b wr => wr = u1) (fun _ wr => 0)
      case atStart => exact rfl
      case round =>
        subst hrel
        have HLW := Lib.hid (left48 _ HP9.out)
        have HSZ := Lib.hid (sizeL127 0 0 0 none)
        have H1Z := Lib.hid (oneL127 0 0 0 none)
        have c0 := cell_blk HQ9.out 0
        have d1 := cell_blk HX.out 1
        simp only [List.getElem?_toArray, List.getElem?_cons_zero, List.getElem?_cons_succ] at c0 d1
        go_wp2_with fail
        refine (HLW.out).mono ?_
        rintro e w3 ⟨rfl, rfl⟩
        clear HLW
        by_cases k25 : kd = 25
        · have t1 : ((kd : Int) == 25) = true := by simp; omega
          clear k25
          go_wp2_with (first | (refine wpList_load_row rfl 79 _ rfl t rfl 79 _ (0, 0) _ HX.out Tryz.underlying79 rfl HSZ.out ?_) | (refine wpList_store_row rfl 79 _ _ rfl t #[.int .u32 ((0 : Nat) : Int), .slice none 0 0] rfl rfl 79 _ HX.out HSZ.out rfl H1Z.out ?_))
          have t9 := Turned.setRow HX.out #[.int .u32 ((0 : Nat) : Int), .slice none 0 0]
          refine bodyPost_ret (results_row_tmp Tryz.results41 _ _ t 79 _ (0, 0) _ rfl (t9.get (lt_of_blk HX.out)) Tryz.underlying79 rfl HSZ.out) rfl ?_
          exact .inr ⟨rfl, 0, none, 0, 0, rfl, HB9.out.trans (t9.below hlow)⟩
        · have t1 : ((kd : Int) == 25) = false := by simp; omega
          clear k25
          go_wp2_with (first | (refine wpList_load_row rfl 79 _ rfl t rfl 79 _ (0, 0) _ HX.out Tryz.underlying79 rfl HSZ.out ?_) | (refine wpList_store_row rfl 79 _ _ rfl t #[.int .u32 ((0 : Nat) : Int), .slice none 0 0] rfl rfl 79 _ HX.out HSZ.out rfl H1Z.out ?_))
          have t9 := Turned.setRow HX.out #[.int .u32 ((0 : Nat) : Int), .slice none 0 0]
          refine bodyPost_ret (results_row_tmp Tryz.results41 _ _ t 79 _ (0, 0) _ rfl (t9.get (lt_of_blk HX.out)) Tryz.underlying79 rfl HSZ.out) rfl ?_
          exact .inr ⟨rfl, 0, none, 0, 0, rfl, HB9.out.trans (t9.below hlow)⟩
    · have hl6 : l.length - 0 < 2 := by omega
      obtain ⟨A1, hp1, -⟩ := HS.out.cut.at_
      have HN := Lib.hid (num49_badk _ _ 2 hp1 (by decide) (by decide) (.inl hl6))
      clear hp1
      go_wp2_with fail
      refine (HN.out).mono ?_
      rintro e w1 ⟨rfl, k1, o1, k2⟩
      have HT0 := Lib.hid (k2.keep HT.out hnt.symm)
      have HS0 := Lib.hid (HS.out.spoil k1 k2)
      have HN2 := Lib.hid (num49_badk _ _ 4 HS0.out.cut (by decide) (by decide) (.inr rfl))
      clear k1 k2 HN HT HS
      go_wp2_with fail
      refine (HN2.out).mono ?_
      rintro e w2 ⟨rfl, k1, o1, k2⟩
      have HT := Lib.hid (k2.keep HT0.out hnt.symm)
      have HS := Lib.hid (HS0.out.again k1 k2)
      clear k1 k2 HN2 HT0 HS0 hl6
      have HX0 := Lib.hid HT.out
      have z0 := cell_blk HT.out 0
      have f0 := frozen_blk HT.out 0
      simp only [List.getElem?_toArray, List.getElem?_cons_zero, List.getElem?_cons_succ] at z0
      have t0 := Turned.setCell HT.out 0 (.int .u32 0)
      simp only [List.setIfInBounds_toArray, List.set_cons_zero, List.set_cons_succ] at t0
      have hst : (w2.setCell ⟨t, 0, none⟩ (.int .u32 0)).heap[p]? = some (.cells #[.slice none 0 0, .bool false] 119 (0, 0)) := t0.keep HS.out.cut hnt
      have hbx : (w2.setCell ⟨t, 0, none⟩ (.int .u32 0)).heap[q]? = some (.cells #[.int .u8 (kd : Int), v] 24 (0, 0)) := t0.keep HS.out.box hqt.symm
      have HP9 := Lib.hid hst
      have HQ9 := Lib.hid hbx
      have HX := Lib.hid (t0.get (lt_of_blk HT.out))
      have HB9 := Lib.hid (HS.out.below.trans (t0.below hlow))
      obtain ⟨u1, hu1⟩ : ∃ u1, u1 = w2.setCell ⟨t, 0, none⟩ (.int .u32 0) := ⟨_, rfl⟩
      rw [← hu1] at HP9 HQ9 HX HB9
      clear t0 hst hbx HT HS
      go_wp2_with fail
      rw [← hu1]
      clear hu1 z0 f0
      go_loopw [5] (fun b wr => wr = u1) (fun _ wr => 0)
      case atStart => exact rfl
      case round =>
        subst hrel
        have HLW := Lib.hid (left48 _ HP9.out)
        have HSZ := Lib.hid (sizeL127 0 0 0 none)
        have H1Z := Lib.hid (oneL127 0 0 0 none)
        have c0 := cell_blk HQ9.out 0
        have d1 := cell_blk HX.out 1
        simp only [List.getElem?_toArray, List.getElem?_cons_zero, List.getElem?_cons_succ] at c0 d1
        go_wp2_with fail
        refine (HLW.out).mono ?_
        rintro e w3 ⟨rfl, rfl⟩
        clear HLW
        by_cases k25 : kd = 25
        · have t1 : ((kd : Int) == 25) = true := by simp; omega
          clear k25
          go_wp2_with (first | (refine wpList_load_row rfl 79 _ rfl t rfl 79 _ (0, 0) _ HX.out Tryz.underlying79 rfl HSZ.out ?_) | (refine wpList_store_row rfl 79 _ _ rfl t #[.int .u32 ((0 : Nat) : Int), .slice none 0 0] rfl rfl 79 _ HX.out HSZ.out rfl H1Z.out ?_))
          have t9 := Turned.setRow HX.out #[.int .u32 ((0 : Nat) : Int), .slice none 0 0]
          refine bodyPost_ret (results_row_tmp Tryz.results41 _ _ t 79 _ (0, 0) _ rfl (t9.get (lt_of_blk HX.out)) Tryz.underlying79 rfl HSZ.out) rfl ?_
          exact .inr ⟨rfl, 0, none, 0, 0, rfl, HB9.out.trans (t9.below hlow)⟩
        · have t1 : ((kd : Int) == 25) = false := by simp; omega
          clear k25
          go_wp2_with (first | (refine wpList_load_row rfl 79 _ rfl t rfl 79 _ (0, 0) _ HX.out Tryz.underlying79 rfl HSZ.out ?_) | (refine wpList_store_row rfl 79 _ _ rfl t #[.int .u32 ((0 : Nat) : Int), .slice none 0 0] rfl rfl 79 _ HX.out HSZ.out rfl H1Z.out ?_))
          have t9 := Turned.setRow HX.out #[.int .u32 ((0 : Nat) : Int), .slice none 0 0]
          refine bodyPost_ret (results_row_tmp Tryz.results41 _ _ t 79 _ (0, 0) _ rfl (t9.get (lt_of_blk HX.out)) Tryz.underlying79 rfl HSZ.out) rfl ?_
          exact .inr ⟨rfl, 0, none, 0, 0, rfl, HB9.out.trans (t9.below hlow)⟩
end Go.Proofs.YtfolamkjlgpgmaaGreatDoor
