/- Bytes read as options: the walk. No condition but that the bytes fit a machine. -/
import Derived.Test.YtfolamkjlgpgmaaGreatDoorRows8
import Derived.Test.YtfolamkjlgpgmaaGreatDoorGetPQ
namespace Go.Proofs.YtfolamkjlgpgmaaGreatDoor
open Go.RowKit
set_option linter.unusedVariables false
set_option linter.unusedSimpArgs false
/-- options as values: of each its kind, its data in block g -/
def rowO (g : Nat) (L : List (Nat × Nat × Nat)) : List Value := L.flatMap fun x => [.int .u8 (x.1 : Int), .slice (some ⟨g, x.2.1, none⟩) x.2.2 x.2.2]
theorem rowO_length (g : Nat) (L : List (Nat × Nat × Nat)) : (rowO g L).length = 2 * L.length := by
  induction L with
  | nil => rfl
  | cons x L ih => simp only [rowO, List.flatMap_cons, List.length_append, List.length_cons, List.length_nil] at ih ⊢; omega
theorem info41 : (Tryz.prog.info? 24).map (fun i => (i.zero, i.size, i.bytes)) = some (some (.agg #[.int .u8 0, .slice none 0 0]), 2, 32) := by kernel_rfl
/-- what bytes read as options give -/
def GetPost (l : List Nat) (w : World) (e : Ending) (w' : World) : Prop :=
  Below w.heap.size w w' ∧ ((getS l = none ∧ e = .returned (.tuple #[.slice none 0 0, .int .i64 4])) ∨
    ∃ L g c A, getS l = some L ∧ e = .returned (.tuple #[.slice A L.length L.length, .int .i64 0]) ∧ (∃ k, w'.ownsRow w.heap.size 24 2 (.slice A L.length k) L.length (rowO g L)) ∧ (l ≠ [] → w.heap.size ≤ g ∧ RowAt w' g c l))
/-- while they are read -/
structure GB (w wr : World) (p g c : Nat) (l : List Nat) (L : List (Nat × Nat × Nat)) (v : Value) : Prop where
  row : l ≠ [] → w.heap.size ≤ g ∧ g < p ∧ RowAt wr g c l
  hp : w.heap.size ≤ p
  lp : p < wr.heap.size
  own : wr.ownsRow (p + 1) 24 2 v L.length (rowO g L)
  len : L.length ≤ 64
  below : Below w.heap.size w wr
theorem Turned.grown {b : Nat} {o : Obj} {w w' : World} (h : Turned b o w w') : w.grownBy w' (some b) := ⟨h.os, h.tape, h.output, by rw [h.size]; exact Nat.le_refl _, fun k _ hk => h.other (fun e => hk (by rw [e]))⟩
theorem GB.turn {w wr w' : World} {p g c : Nat} {l : List Nat} {L : List (Nat × Nat × Nat)} {v : Value} {o : Obj} (h : GB w wr p g c l L v) (t : Turned p o wr w') : GB w w' p g c l L v := by
  refine ⟨fun hl => ?_, h.hp, by rw [t.size]; exact h.lp, h.own.kept t.grown ?_, h.len, h.below.trans (t.below h.hp)⟩
  · obtain ⟨h1, h2, cur, h3, h4⟩ := h.row hl
    exact ⟨h1, h2, cur, t.keep h3 (by omega), h4⟩
  · cases hv : v.ownBlock with
    | none => exact .inl rfl
    | some k => right; intro e; cases e; have := (h.own.lt _ hv).1; omega
theorem GB.grown {w wr w' : World} {p g c : Nat} {l : List Nat} {L L' : List (Nat × Nat × Nat)} {v v' : Value} (h : GB w wr p g c l L v) (hg : wr.grownBy w' v.ownBlock) (hown : w'.ownsRow (p + 1) 24 2 v' L'.length (rowO g L')) (hlen : L'.length ≤ 64) : GB w w' p g c l L' v' := by
  have hlp := h.lp
  refine ⟨fun hl => ?_, h.hp, by have := hg.size; omega, hown, hlen, ?_⟩
  · obtain ⟨h1, h2, cur, h3, h4⟩ := h.row hl
    refine ⟨h1, h2, cur, (hg.block g (lt_of_blk h3) (fun e => ?_)).trans h3, h4⟩
    have := (h.own.lt g e.symm).1; omega
  · have hp := h.hp
    exact Below.grown' h.below hg (by omega) (fun k hk => by have := (h.own.lt k hk).1; omega)
theorem GB.step {w wr w' : World} {p g c : Nat} {l : List Nat} {L : List (Nat × Nat × Nat)} {v : Value} (h : GB w wr p g c l L v) (hb : Below wr.heap.size wr w') : GB w w' p g c l L v := by
  have hlp := h.lp; have hp := h.hp
  refine ⟨fun hl => ?_, h.hp, by have := hb.size; omega, own_below h.own hb, h.len, h.below.trans (hb.mono (by omega))⟩
  obtain ⟨h1, h2, cur, h3, h4⟩ := h.row hl
  exact ⟨h1, h2, cur, (hb.block g (lt_of_blk h3)).trans h3, h4⟩
theorem CutAt.grown {w w' : World} {p g c pos : Nat} {bs : List Nat} {row : Option Nat} (h : CutAt w p g c pos bs) (hg : w.grownBy w' row) (hr : ∀ k, row = some k → k ≠ p ∧ (bs ≠ [] → k ≠ g)) : CutAt w' p g c pos bs := by
  obtain ⟨A, h1, h2⟩ := h.at_
  refine ⟨h.le, h.cap, h.max, ⟨A, (hg.block p (lt_of_blk h1) (fun e => (hr p e.symm).1 rfl)).trans h1, h2⟩, fun k x hx => ?_, h.ne⟩
  have hc := h.rd k x hx
  have hb := hg.block g (lt_of_cell hc) (fun e => (hr g e.symm).2 (by rintro rfl; simp at hx) rfl)
  rw [← hc]
  simp only [World.cell?, hb]
/-- how many bytes a cutter has left -/
def leftN (W : World) (p : Nat) : Nat := match W.heap[p]? with
  | some (.cells cs _ _) => match cs[0]? with
    | some (Value.slice _ n _) => n
    | _ => 0
  | _ => 0
theorem leftN_at {W : World} {p n c : Nat} {A : Option Addr} {b : Bool} (h : W.heap[p]? = some (.cells #[.slice A n c, .bool b] 119 (0, 0))) : leftN W p = n := by unfold leftN; rw [h]; rfl
theorem CutAt.left {w : World} {p g c pos : Nat} {bs : List Nat} (h : CutAt w p g c pos bs) : leftN w p = bs.length - pos := by
  obtain ⟨A, h1, _⟩ := h.at_
  exact leftN_at h1
theorem getPost_bad {l : List Nat} {w w' : World} (h : getS l = none) (hb : Below w.heap.size w w') : GetPost l w (.returned (.tuple #[.slice none 0 0, .int .i64 4])) w' := ⟨hb, .inl ⟨h, rfl⟩⟩
theorem rowO_snoc (g : Nat) (L : List (Nat × Nat × Nat)) (x : Nat × Nat × Nat) : rowO g (L ++ [x]) = rowO g L ++ [.int .u8 (x.1 : Int), .slice (some ⟨g, x.2.1, none⟩) x.2.2 x.2.2] := by simp [rowO]
set_option maxRecDepth 100000 in
set_option maxHeartbeats 1000000 in
theorem clip52 (A : Option Addr) (n c : Nat) (hn : n ≤ c) (w : World) : Calls Tryz.prog 61 #[.slice A n c] w fun e w' => e = .returned (.slice A n n) ∧ w = w' := by
  go_enter Tryz.func61, Tryz.ntmps61
  go_wp2_with fail
  go_ret
  exact ⟨rfl, rfl⟩
theorem nextO_short {bs : List Nat} {pos : Nat} (h : ¬ pos + 1 < bs.length) : nextO bs pos = none := by unfold nextO; rw [if_neg (fun x => h x.1)]
theorem nextO_zero {bs : List Nat} {pos : Nat} (h : bs[pos + 1]? = some 0) : nextO bs pos = none := by
  unfold nextO; rw [if_neg]; rw [List.getD_eq_getElem?_getD, h]; simp
theorem nextO_far {bs : List Nat} {pos m : Nat} (h : bs[pos + 1]? = some m) (hf : ¬ pos + 8 * m ≤ bs.length) : nextO bs pos = none := by
  unfold nextO; rw [if_neg]; rw [List.getD_eq_getElem?_getD, h]; simp only [Option.getD_some]; omega
theorem nextO_some {bs : List Nat} {pos kd m : Nat} (hk : bs[pos]? = some kd) (h : bs[pos + 1]? = some m) (h0 : m ≠ 0) (hf : pos + 8 * m ≤ bs.length) : nextO bs pos = some (kd, 8 * m) := by
  have := (List.getElem?_eq_some_iff.1 h).1
  unfold nextO
  rw [List.getD_eq_getElem?_getD, List.getD_eq_getElem?_getD, h, hk, if_pos]
  · rfl
  · simp only [Option.getD_some]; omega
theorem own_slice2 {w : World} {base e size n : Nat} {v : Value} {xs : List Value} (h : w.ownsRow base e size v n xs) : ∃ q c, v = .slice q n c ∧ n ≤ c := by
  rcases h.2 with ⟨rfl, rfl⟩ | ⟨g, cap, cur, rfl, hb, hg, hn, _⟩
  · exact ⟨none, 0, rfl, Nat.le_refl _⟩
  · exact ⟨_, cap, rfl, hn⟩
set_option maxRecDepth 100000 in
set_option maxHeartbeats 4000000 in
theorem get10 {A : Option Addr} {c B : Nat} {l : List Nat} (w : World) (h : Bs w B A c l) (hl : l.length ≤ 1000000000) (h256 : ∀ x ∈ l, x < 256) :
    Calls Tryz.prog 24 #[.slice A l.length c] w (GetPost l w) := by
  obtain ⟨i41, hi, hz0, hz1, hz2⟩ := info_parts info41
  have HO := Lib.hid (of47 w h hl)
  have H256 := Lib.hid h256
  clear h h256
  obtain ⟨n, hn⟩ : ∃ n, l.length = n := ⟨_, rfl⟩
  rw [hn] at HO hl ⊢
  have HN := Lib.hid hn
  clear hn
  go_enter Tryz.func24, Tryz.ntmps24
  go_wp2_with fail
  refine (HO.out).mono ?_
  rintro e w1 ⟨p, g, c', rfl, hc, hp, hr, hb⟩
  have hlp : p < w1.heap.size := by obtain ⟨A1, h1, _⟩ := hc.at_; exact lt_of_blk h1
  have HI : Hid (GB w w1 p g c' l [] (.slice none 0 0)) := Lib.hid ⟨hr, hp, hlp, World.ownsRow_nil _ _ _ _, by simp, hb⟩
  have HC := Lib.hid hc
  clear hc hp hr hb hlp HO
  go_wp2_with fail
  go_loopw [2] (fun v wr => ∃ pos L, CutAt wr p g c' pos l ∧ Scn l pos L ∧ GB w wr p g c' l L v) (fun _ wr => leftN wr p)
  case atStart => exact ⟨0, [], HC.out, Scn.start l, HI.out⟩
  case round =>
    clear HI HC
    obtain ⟨pos, L, hC, hS, hB⟩ := hrel
    obtain ⟨Ac, hp1, hA1⟩ := hC.at_
    have hle := hC.le
    have hnn := HN.out
    rw [hnn] at hp1 hle
    have HLW := Lib.hid (left48 _ hp1)
    have HBB := Lib.hid hB
    have HCC := Lib.hid hC
    have HSS := Lib.hid hS
    have hlen := hB.len
    clear hp1 hA1 hnn hC hB hS
    by_cases hlt : pos < n
    · have hpos : (0 : Int) < ((n - pos : Nat) : Int) := by omega
      obtain ⟨kd, hkd⟩ : ∃ kd, l[pos]? = some kd := ⟨l[pos]'(by rw [HN.out]; exact hlt), List.getElem?_eq_getElem _⟩
      have hkd2 : kd < 256 := H256.out kd (List.mem_of_getElem? hkd)
      have HK := Lib.hid hkd
      clear hkd
      go_wp2_with fail
      refine (HLW.out).mono ?_
      rintro e w2 ⟨rfl, rfl⟩
      go_wp2_with fail
      refine (num49_ok _ HCC.out HK.out hkd2).mono ?_
      rintro e w3 ⟨rfl, hC3, o3, t3⟩
      have HC3 := Lib.hid hC3
      have HB3 := Lib.hid (HBB.out.turn t3)
      clear hC3 t3 HBB HLW
      go_wp2_with fail
      by_cases h2 : pos + 1 < n
      · obtain ⟨m, hm⟩ : ∃ m, l[pos + 1]? = some m := ⟨l[pos + 1]'(by rw [HN.out]; exact h2), List.getElem?_eq_getElem _⟩
        have hm2 : m < 256 := H256.out m (List.mem_of_getElem? hm)
        have HM := Lib.hid hm
        clear hm
        refine (num49_ok _ HC3.out HM.out hm2).mono ?_
        rintro e w4 ⟨rfl, hC4, o4, t4⟩
        have HB5 := Lib.hid (HB3.out.turn t4)
        obtain ⟨A4, hp4, hA4⟩ := hC4.at_
        have HP4 := Lib.hid hp4
        have HC4 := Lib.hid hC4
        clear hC4 t4 HB3 HC3 hp4 hA4
        by_cases h0 : m = 0
        · have HNX : Hid (nextO l pos = none) := Lib.hid (nextO_zero (by rw [HM.out, h0]))
          subst h0
          go_wp2_with fail
          refine (bytes50_bad (-2) _ HP4.out (.inl (by decide))).mono ?_
          rintro e w5 ⟨rfl, hC5, o5, t5⟩
          have HB6 := Lib.hid (HB5.out.turn t5)
          have HCB := Lib.hid hC5
          clear hC5 t5
          go_wp2_with fail
          refine (bad51 _ HCB.out).mono ?_
          rintro e w6 ⟨rfl, rfl⟩
          go_wp2_with fail
          go_ret2
          exact getPost_bad (HSS.out.fail (by rw [HN.out]; exact hlt) (.inl HNX.out)) HB6.out.below
        · obtain ⟨k, hk⟩ : ∃ k, 8 * m = k + 2 := ⟨8 * m - 2, by omega⟩
          have ek : (m : Int) * 8 - 2 = (k : Int) := by omega
          by_cases h3 : pos + 8 * m ≤ n
          · have HNX : Hid (nextO l pos = some (kd, 8 * m)) := Lib.hid (nextO_some HK.out HM.out h0 (by rw [HN.out]; exact h3))
            go_wp2_with fail
            refine (bytes50_ok k _ HC4.out (by omega) (by rw [HN.out]; omega)).mono ?_
            rintro e w5 ⟨rfl, hC5, o5, t5⟩
            have HB6 := Lib.hid (HB5.out.turn t5)
            have HC5 := Lib.hid hC5
            obtain ⟨A5, hp5, hA5⟩ := hC5.at_
            have HP5 := Lib.hid hp5
            clear hC5 t5 HB5 HC4 HP4 hp5 hA5 ek
            go_wp2_with fail
            refine (bad51 _ HP5.out).mono ?_
            rintro e w6 ⟨rfl, rfl⟩
            obtain ⟨q, cq, hq, hq2⟩ := own_slice2 HB6.out.own
            subst hq
            by_cases h64 : L.length = 64
            · have t64 : ((L.length : Int) == 64) = true := by rw [beq_iff_eq]; omega
              have H64 := Lib.hid h64
              clear h64
              go_wp2_with fail
              go_ret2
              exact getPost_bad (HSS.out.fail (by rw [HN.out]; exact hlt) (.inr H64.out)) HB6.out.below
            · have t64 : ((L.length : Int) == 64) = false := by rw [beq_eq_false_iff_ne]; omega
              have H64 := Lib.hid h64
              clear h64
              have hsz5 : p + 1 ≤ w5.heap.size := HB6.out.lp
              go_wp2_with (at_builtin; refine wpList_append_own _ rfl _ _ 58 rfl (p + 1) 24 i41 (.agg #[.int .u8 0, .slice none 0 0]) 2 32 Tryz.underlying58 hi hz0 hz1 hz2 rfl (by decide) _ _ _ rfl (HB6.out.own.alloc _) ⟨w5.heap.size, 0, none⟩ 1 1 [.int .u8 (kd : Int), .slice (some ⟨g, pos + 1 + 1, none⟩) k k] rfl rfl ?c2 ?c1 ?c3 ?c4 ?c5 ?_)
              case c2 =>
                intro j u hj
                rw [Addr.add_mid, Nat.zero_add]
                have c := cell_blk (heap_alloc_new w5 (.cells #[.int .u8 (kd : Int), .slice (some ⟨g, pos + 1 + 1, none⟩) k k] 24)) j
                exact c.trans (by simpa using hj)
              case c1 => intro u hu; simp only [List.mem_cons, List.not_mem_nil, or_false] at hu; rcases hu with rfl | rfl <;> rfl
              case c3 => unfold maxLen; omega
              case c4 => omega
              case c5 => simp; omega
              intro v' w7 hown' hgrow _
              have hal : Below w5.heap.size w5 (w5.alloc (.cells #[.int .u8 (kd : Int), .slice (some ⟨g, pos + 1 + 1, none⟩) k k] 24)) := (Below.refl _ _).alloc (Nat.le_refl _) _
              have hS7 := HSS.out.next (by rw [HN.out]; exact hlt) HNX.out H64.out
              have hL7 : (L ++ [(kd, pos + 2, 8 * m - 2)]).length = L.length + 1 := by simp
              have hB7 : GB w w7 p g c' l (L ++ [(kd, pos + 2, 8 * m - 2)]) v' := (HB6.out.step hal).grown hgrow (by rw [hL7, rowO_snoc, show 8 * m - 2 = k by omega]; exact hown') (by rw [hL7]; have := H64.out; omega)
              have hC7 : CutAt w7 p g c' (pos + 8 * m) l := by
                have := (HC5.out.step hal).grown hgrow (fun j hj => by
                  have h1 := ((HB6.out.own.alloc (.cells #[.int .u8 (kd : Int), .slice (some ⟨g, pos + 1 + 1, none⟩) k k] 24)).lt j hj).1
                  exact ⟨by omega, fun hl => by have := (HB6.out.row hl).2.1; omega⟩)
                rw [show pos + 1 + 1 + k = pos + 8 * m by omega] at this
                exact this
              have hm1 := HCC.out.left
              have hm2 := hC7.left
              have hmn := HN.out
              have hmes : leftN w7 p < leftN wr p := by omega
              have HR := Lib.hid (And.intro hC7 (And.intro hS7 hB7))
              have HMS := Lib.hid hmes
              clear hown' hgrow hal hS7 hL7 hB7 hC7 hm1 hm2 hmn hmes
              go_wp2_with fail
              go_roundw
              case rel => exact ⟨pos + 8 * m, _, HR.out.1, HR.out.2.1, HR.out.2.2⟩
              case measure => exact HMS.out
          · have HNX : Hid (nextO l pos = none) := Lib.hid (nextO_far HM.out (by rw [HN.out]; exact h3))
            go_wp2_with fail
            refine (bytes50_bad (k : Int) _ HP4.out (.inr (.inl (by rw [HN.out]; omega)))).mono ?_
            rintro e w5 ⟨rfl, hC5, o5, t5⟩
            clear ek
            have HB6 := Lib.hid (HB5.out.turn t5)
            have HCB := Lib.hid hC5
            clear hC5 t5
            go_wp2_with fail
            refine (bad51 _ HCB.out).mono ?_
            rintro e w6 ⟨rfl, rfl⟩
            go_wp2_with fail
            go_ret2
            exact getPost_bad (HSS.out.fail (by rw [HN.out]; exact hlt) (.inl HNX.out)) HB6.out.below
      · have HNX : Hid (nextO l pos = none) := Lib.hid (nextO_short (by rw [HN.out]; exact h2))
        obtain ⟨A3, hp3, hA3⟩ := HC3.out.at_
        have e0 : l.length - (pos + 1) = 0 := by rw [HN.out]; omega
        rw [e0] at hp3
        have HP3 := Lib.hid hp3
        clear hp3 hA3 e0
        refine (num49_bad _ 0 HP3.out (.inl rfl)).mono ?_
        rintro e w4 ⟨rfl, hC4, o4, t4⟩
        have HB5 := Lib.hid (HB3.out.turn t4)
        have HC4 := Lib.hid hC4
        clear hC4 t4 HB3 HC3 HP3
        go_wp2_with fail
        refine (bytes50_bad (-2) _ HC4.out (.inl (by decide))).mono ?_
        rintro e w5 ⟨rfl, hC5, o5, t5⟩
        have HB6 := Lib.hid (HB5.out.turn t5)
        have HCB := Lib.hid hC5
        clear hC5 t5
        go_wp2_with fail
        refine (bad51 _ HCB.out).mono ?_
        rintro e w6 ⟨rfl, rfl⟩
        go_wp2_with fail
        go_ret2
        exact getPost_bad (HSS.out.fail (by rw [HN.out]; exact hlt) (.inl HNX.out)) HB6.out.below
    · have e0 : n - pos = 0 := by omega
      rw [e0] at HLW
      have HD := Lib.hid (HSS.out.done HCC.out.le (by rw [HN.out]; omega))
      obtain ⟨q, cq, hq, hq2⟩ := own_slice2 HBB.out.own
      subst hq
      go_wp2_with fail
      refine (HLW.out).mono ?_
      rintro e w2 ⟨rfl, rfl⟩
      go_wp2_with fail
      refine (clip52 _ _ _ hq2 _).mono ?_
      rintro e w3 ⟨rfl, rfl⟩
      go_wp2_with fail
      go_ret2
      exact ⟨HBB.out.below, .inr ⟨L, g, c', q, HD.out, rfl, ⟨cq, own_mono HBB.out.own (by have := HBB.out.hp; omega)⟩, fun hl => ⟨(HBB.out.row hl).1, (HBB.out.row hl).2.2⟩⟩⟩
end Go.Proofs.YtfolamkjlgpgmaaGreatDoor
