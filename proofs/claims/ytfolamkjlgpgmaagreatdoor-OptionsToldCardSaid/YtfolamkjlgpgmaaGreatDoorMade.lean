/- Several texts in one: Num4, Made1, Made2, App8. No condition beyond those that each part names. -/
import Derived.Test.YtfolamkjlgpgmaaGreatDoorRefP
import Derived.Test.YtfolamkjlgpgmaaGreatDoorCats
import Derived.ArgAppend
/- A number's four bytes, behind others: the walks. No condition but that they are few. -/
namespace Go.Proofs.YtfolamkjlgpgmaaGreatDoor
open Go.RowKit
set_option linter.unusedVariables false
set_option linter.unusedSimpArgs false
def be4 (n : Nat) : List Nat := [n / 16777216 % 256, n / 65536 % 256, n / 256 % 256, n % 256]
/-- bytes of one's own, clipped or not -/
def OwnPost (bs : List Nat) (w : World) (e : Ending) (w' : World) : Prop := ∃ A c k, e = .returned (.slice A bs.length c) ∧ c = bs.length ∧ c ≤ k ∧ w'.ownsRow w.heap.size 5 1 (.slice A bs.length k) bs.length (row8 bs) ∧ Below w.heap.size w w'
set_option maxRecDepth 100000 in
set_option maxHeartbeats 2000000 in
theorem put64 {A : Option Addr} {c B : Nat} {l : List Nat} (n : Nat) (hn : n < 18446744073709551616) (w : World) (h : Bs w B A c l) (hl : l.length ≤ 100000000) :
    Calls Tryz.prog 78 #[.slice A l.length c, .int .u64 (n : Int), .int .i64 4] w (OwnPost (l ++ be4 n) w) := by
  obtain ⟨i5, hi, hz0, hz1, hz2⟩ := info_parts info5
  have HC := Lib.hid (clone60 w h (by omega))
  obtain ⟨m, hm⟩ : ∃ m, l.length = m := ⟨_, rfl⟩
  rw [hm] at HC hl ⊢
  have HM := Lib.hid hm
  clear h hm
  go_enter Tryz.func78, Tryz.ntmps78
  go_wp2_with fail
  refine (HC.out).mono ?_
  rintro e w1 ⟨v', rfl, ho, hb, -⟩
  have HO := Lib.hid ho
  have HB := Lib.hid hb
  clear ho hb HC
  go_wp2_with fail
  go_loopw [7, 8] (fun v i wr => ∃ k : Nat, k ≤ 4 ∧ i = .int .i64 (3 - (k : Int)) ∧ wr.ownsRow w.heap.size 5 1 v (m + k) (row8 (l ++ (be4 n).take k)) ∧ Below w.heap.size w wr) (fun _ i _ => (intOf i + 1).toNat)
  case atStart => exact ⟨0, by omega, rfl, by simpa using HO.out, HB.out⟩
  case round =>
    clear HO HB
    obtain ⟨k, hk, rfl, ho, hb⟩ := hrel
    match k, hk with
    | 0, _ =>
      obtain ⟨A3, c3, rfl, -⟩ := own_slice2 ho
      have HO := Lib.hid ho
      have HB := Lib.hid hb
      have hsz := hb.size
      clear ho hb
      go_wp2_with (at_builtin; refine wpList_append_own _ rfl _ _ 22 rfl w.heap.size 5 i5 (.int .u8 0) 1 1 Tryz.underlying22 hi hz0 hz1 hz2 rfl (by decide) _ _ _ rfl (HO.out.alloc _) ⟨wr.heap.size, 0, none⟩ 1 1 (row8 [n / 16777216 % 256]) rfl rfl ?c2 (row8_one _) ?c3 ?c4 ?c5 ?_)
      case c2 =>
        intro j u hj
        rw [Addr.add_mid, Nat.zero_add]
        have c := cell_blk (heap_alloc_new wr (.cells (row8 [n / 16777216 % 256]).toArray 5)) j
        exact c.trans (by simpa using hj)
      case c3 => unfold maxLen; omega
      case c4 => omega
      case c5 => simp; omega
      intro v9 w9 ho9 hg9 _
      have HR : Hid (w9.ownsRow w.heap.size 5 1 v9 (m + 1) (row8 (l ++ (be4 n).take 1))) := Lib.hid (by
        have e : l ++ (be4 n).take 1 = (l ++ (be4 n).take 0) ++ [n / 16777216 % 256] := by rw [List.append_assoc]; rfl
        rw [e, row8_append]; first | exact ho9 | simpa using ho9)
      have HB9 := Lib.hid (Below.grown' (HB.out.alloc hsz _) hg9 (by simp; omega) (fun k hk => by have := (HO.out.alloc (.cells (row8 [n / 16777216 % 256]).toArray 5)).lt k hk; omega))
      clear ho9 hg9
      go_wp2_with fail
      go_roundw
      case rel => exact ⟨1, by omega, by congr 1, HR.out, HB9.out⟩
      case measure => simp [intOf]
    | 1, _ =>
      obtain ⟨A3, c3, rfl, -⟩ := own_slice2 ho
      have HO := Lib.hid ho
      have HB := Lib.hid hb
      have hsz := hb.size
      clear ho hb
      go_wp2_with (at_builtin; refine wpList_append_own _ rfl _ _ 22 rfl w.heap.size 5 i5 (.int .u8 0) 1 1 Tryz.underlying22 hi hz0 hz1 hz2 rfl (by decide) _ _ _ rfl (HO.out.alloc _) ⟨wr.heap.size, 0, none⟩ 1 1 (row8 [n / 65536 % 256]) rfl rfl ?c2 (row8_one _) ?c3 ?c4 ?c5 ?_)
      case c2 =>
        intro j u hj
        rw [Addr.add_mid, Nat.zero_add]
        have c := cell_blk (heap_alloc_new wr (.cells (row8 [n / 65536 % 256]).toArray 5)) j
        exact c.trans (by simpa using hj)
      case c3 => unfold maxLen; omega
      case c4 => omega
      case c5 => simp; omega
      intro v9 w9 ho9 hg9 _
      have HR : Hid (w9.ownsRow w.heap.size 5 1 v9 (m + 2) (row8 (l ++ (be4 n).take 2))) := Lib.hid (by
        have e : l ++ (be4 n).take 2 = (l ++ (be4 n).take 1) ++ [n / 65536 % 256] := by rw [List.append_assoc]; rfl
        rw [e, row8_append]; first | exact ho9 | simpa using ho9)
      have HB9 := Lib.hid (Below.grown' (HB.out.alloc hsz _) hg9 (by simp; omega) (fun k hk => by have := (HO.out.alloc (.cells (row8 [n / 65536 % 256]).toArray 5)).lt k hk; omega))
      clear ho9 hg9
      go_wp2_with fail
      go_roundw
      case rel => exact ⟨2, by omega, by congr 1, HR.out, HB9.out⟩
      case measure => simp [intOf]
    | 2, _ =>
      obtain ⟨A3, c3, rfl, -⟩ := own_slice2 ho
      have HO := Lib.hid ho
      have HB := Lib.hid hb
      have hsz := hb.size
      clear ho hb
      go_wp2_with (at_builtin; refine wpList_append_own _ rfl _ _ 22 rfl w.heap.size 5 i5 (.int .u8 0) 1 1 Tryz.underlying22 hi hz0 hz1 hz2 rfl (by decide) _ _ _ rfl (HO.out.alloc _) ⟨wr.heap.size, 0, none⟩ 1 1 (row8 [n / 256 % 256]) rfl rfl ?c2 (row8_one _) ?c3 ?c4 ?c5 ?_)
      case c2 =>
        intro j u hj
        rw [Addr.add_mid, Nat.zero_add]
        have c := cell_blk (heap_alloc_new wr (.cells (row8 [n / 256 % 256]).toArray 5)) j
        exact c.trans (by simpa using hj)
      case c3 => unfold maxLen; omega
      case c4 => omega
      case c5 => simp; omega
      intro v9 w9 ho9 hg9 _
      have HR : Hid (w9.ownsRow w.heap.size 5 1 v9 (m + 3) (row8 (l ++ (be4 n).take 3))) := Lib.hid (by
        have e : l ++ (be4 n).take 3 = (l ++ (be4 n).take 2) ++ [n / 256 % 256] := by rw [List.append_assoc]; rfl
        rw [e, row8_append]; first | exact ho9 | simpa using ho9)
      have HB9 := Lib.hid (Below.grown' (HB.out.alloc hsz _) hg9 (by simp; omega) (fun k hk => by have := (HO.out.alloc (.cells (row8 [n / 256 % 256]).toArray 5)).lt k hk; omega))
      clear ho9 hg9
      go_wp2_with fail
      go_roundw
      case rel => exact ⟨3, by omega, by congr 1, HR.out, HB9.out⟩
      case measure => simp [intOf]
    | 3, _ =>
      obtain ⟨A3, c3, rfl, -⟩ := own_slice2 ho
      have HO := Lib.hid ho
      have HB := Lib.hid hb
      have hsz := hb.size
      clear ho hb
      go_wp2_with (at_builtin; refine wpList_append_own _ rfl _ _ 22 rfl w.heap.size 5 i5 (.int .u8 0) 1 1 Tryz.underlying22 hi hz0 hz1 hz2 rfl (by decide) _ _ _ rfl (HO.out.alloc _) ⟨wr.heap.size, 0, none⟩ 1 1 (row8 [n % 256]) rfl rfl ?c2 (row8_one _) ?c3 ?c4 ?c5 ?_)
      case c2 =>
        intro j u hj
        rw [Addr.add_mid, Nat.zero_add]
        have c := cell_blk (heap_alloc_new wr (.cells (row8 [n % 256]).toArray 5)) j
        exact c.trans (by simpa using hj)
      case c3 => unfold maxLen; omega
      case c4 => omega
      case c5 => simp; omega
      intro v9 w9 ho9 hg9 _
      have HR : Hid (w9.ownsRow w.heap.size 5 1 v9 (m + 4) (row8 (l ++ (be4 n).take 4))) := Lib.hid (by
        have e : l ++ (be4 n).take 4 = (l ++ (be4 n).take 3) ++ [n % 256] := by rw [List.append_assoc]; rfl
        rw [e, row8_append]; first | exact ho9 | simpa using ho9)
      have HB9 := Lib.hid (Below.grown' (HB.out.alloc hsz _) hg9 (by simp; omega) (fun k hk => by have := (HO.out.alloc (.cells (row8 [n % 256]).toArray 5)).lt k hk; omega))
      clear ho9 hg9
      go_wp2_with fail
      go_roundw
      case rel => exact ⟨4, by omega, by congr 1, HR.out, HB9.out⟩
      case measure => simp [intOf]
    | 4, _ =>
      obtain ⟨A3, c3, rfl, hc3⟩ := own_slice2 ho
      have e : (l ++ be4 n).length = m + 4 := by rw [List.length_append, HM.out]; rfl
      have HO : Hid (wr.ownsRow w.heap.size 5 1 (.slice A3 (m + 4) c3) (m + 4) (row8 (l ++ be4 n))) := Lib.hid ho
      have HB := Lib.hid hb
      clear ho hb
      have HE := Lib.hid e
      clear e
      go_wp2_with fail
      refine (clip56 _ _ _ hc3 _).mono ?_
      rintro e w3 ⟨rfl, rfl⟩
      go_wp2_with fail
      go_ret
      refine ⟨A3, m + 4, c3, by rw [HE.out]; rfl, by rw [HE.out], hc3, ?_, HB.out⟩
      rw [HE.out]; exact HO.out
end Go.Proofs.YtfolamkjlgpgmaaGreatDoor

/- Options of six bytes, of a number: the walks, the program's and the document's. No condition. -/
namespace Go.Proofs.YtfolamkjlgpgmaaGreatDoor
open Go.RowKit
set_option linter.unusedVariables false
set_option linter.unusedSimpArgs false
/-- an option of one's own -/
def MadePost (kd : Nat) (bs : List Nat) (w : World) (e : Ending) (w' : World) : Prop := ∃ A c k, e = .returned (.agg #[.int .u8 (kd : Int), .slice A bs.length c]) ∧ bs.length ≤ c ∧ c ≤ k ∧ w'.ownsRow w.heap.size 5 1 (.slice A bs.length k) bs.length (row8 bs) ∧ Below w.heap.size w w'
theorem blk_bs {w : World} {b t : Nat} {l : List Nat} (h : w.heap[b]? = some (.cells (row8 l).toArray t (0, 0))) (hl : l.length ≤ 1000000000) : Bs w w.heap.size (some ⟨b, 0, none⟩) l.length l := by
  refine ⟨fun _ => ⟨b, 0, rfl, lt_of_blk h, fun k x hx => ?_⟩, Nat.le_refl _, (fun e => by cases e), by unfold maxLen; omega⟩
  rw [Nat.zero_add, cell_blk h, List.getElem?_toArray]
  exact row8_get hx
theorem made_end {w W : World} {q kd n c k : Nat} {A : Option Addr} {u0 u1 : Value} {bs : List Nat} (ho : W.ownsRow w.heap.size 5 1 (.slice A n k) n (row8 bs)) (hn : bs.length = n) (hnc : n ≤ c) (hck : c ≤ k) (hq : W.heap[q]? = some (.cells #[u0, u1] 24 (0, 0))) (hqw : w.heap.size ≤ q) (hb : Below w.heap.size w W) :
    MadePost kd bs w (.returned (.agg #[.int .u8 (kd : Int), .slice A n c])) ((W.setCell ⟨q, 0, none⟩ (.int .u8 (kd : Int))).setCell ⟨q, 1, none⟩ (.slice A n c)) := by
  have t := two_set (v0 := .int .u8 (kd : Int)) (v1 := .slice A n c) hq
  subst hn
  exact ⟨A, c, k, rfl, hnc, hck, ho.kept t.grown (own_blk2 ho hq (by decide)), hb.trans (t.below hqw)⟩
theorem end_cells {W : World} {q : Nat} {u0 u1 v0 v1 : Value} (hq : W.heap[q]? = some (.cells #[u0, u1] 24 (0, 0))) : ((W.setCell ⟨q, 0, none⟩ v0).setCell ⟨q, 1, none⟩ v1).cell? ⟨q, 0, none⟩ = some v0 ∧ ((W.setCell ⟨q, 0, none⟩ v0).setCell ⟨q, 1, none⟩ v1).cell? ⟨q, 1, none⟩ = some v1 := by
  have t := two_set (v0 := v0) (v1 := v1) hq
  have g0 := cell_blk (t.get (lt_of_blk hq)) 0
  have g1 := cell_blk (t.get (lt_of_blk hq)) 1
  exact ⟨g0, g1⟩
theorem two_new (w : World) (a b : Obj) : Below w.heap.size w ((w.alloc a).alloc b) ∧ ((w.alloc a).alloc b).heap[w.heap.size]? = some a ∧ ((w.alloc a).alloc b).heap[w.heap.size + 1]? = some b := by
  refine ⟨((Below.refl _ _).alloc (Nat.le_refl _) _).alloc (by simp) _, ?_, ?_⟩
  · rw [heap_alloc_old _ _ (by simp)]; exact heap_alloc_new _ _
  · have := heap_alloc_new (w.alloc a) b
    simpa using this
set_option maxRecDepth 100000 in
set_option maxHeartbeats 1000000 in
theorem life65 (n : Nat) (hn : n < 4294967296) (w : World) : Calls Tryz.prog 62 #[.int .u32 (n : Int)] w (OwnPost ([0, 0] ++ be4 n) w) := by
  have ha := heap_alloc_new w (.cells (zer 2) 5)
  have hal : Below w.heap.size w (w.alloc (.cells (zer 2) 5)) := (Below.refl _ _).alloc (Nat.le_refl _) _
  have HP := Lib.hid (put64 (l := [0, 0]) n (by omega) _ (blk_bs (l := [0, 0]) ha (by simp)) (by simp))
  have HB := Lib.hid hal
  have hmk : ∀ W : World, (Instr.makeSlice 22 (.int .i64 2) (.int .i64 2)).run Tryz.prog W = .ok (.slice (some ⟨W.heap.size, 0, none⟩) 2 2) (W.alloc (.cells (zer 2) 5)) := fun W => make_zeros 2 W (by omega)
  clear ha hal
  go_enter Tryz.func62, Tryz.ntmps62
  go_wp2_with fail
  refine (HP.out).mono ?_
  rintro e w1 ⟨A5, c5, k5, rfl, h1, h2, h3, h4⟩
  have HO := Lib.hid (own_mono h3 HB.out.size)
  have HB5 := Lib.hid (HB.out.trans (h4.mono HB.out.size))
  have H1 := Lib.hid h1
  clear h1 h3 h4 HP
  go_wp2_with fail
  go_ret
  exact ⟨A5, c5, k5, rfl, H1.out, h2, HO.out, HB5.out⟩
end Go.Proofs.YtfolamkjlgpgmaaGreatDoor

/- Options of a number, of a packet: the walks, the program's and the document's. No condition but that the bytes are few. -/
namespace Go.Proofs.YtfolamkjlgpgmaaGreatDoor
open Go.RowKit
set_option linter.unusedVariables false
set_option linter.unusedSimpArgs false
theorem own_adds {w : World} {base n k : Nat} {A : Option Addr} {l : List Nat} (h : w.ownsRow base 5 1 (.slice A n k) n (row8 l)) (hn : 0 < n) : ∃ g, A = some ⟨g, 0, none⟩ ∧ base ≤ g ∧ ∀ j u, (row8 l)[j]? = some u → w.cell? ((⟨g, 0, none⟩ : Addr).add j) = some u := by
  rcases h.2 with ⟨e, h0⟩ | ⟨g, cap, cur, e, hb, _⟩
  · omega
  · cases e
    exact ⟨g, rfl, hb, h.cells (g := g) rfl⟩
theorem blk_own {w : World} {b base : Nat} {l : List Nat} (h : w.heap[b]? = some (.cells (row8 l).toArray 5 (0, 0))) (hb : base ≤ b) (hl : l.length ≤ 1000000000) : w.ownsRow base 5 1 (.slice (some ⟨b, 0, none⟩) l.length l.length) l.length (row8 l) := by
  refine ⟨by rw [row8_length, Nat.mul_one], .inr ⟨b, l.length, _, rfl, hb, h, Nat.le_refl _, by unfold maxLen; omega, by rw [List.size_toArray, row8_length, Nat.mul_one], ?_⟩⟩
  rw [Nat.mul_one]
  exact List.take_of_length_le (by rw [row8_length]; exact Nat.le_refl _)
theorem Bs.adds {w : World} {B c : Nat} {a : Addr} {l : List Nat} (h : Bs w B (some a) c l) : ∀ j u, (row8 l)[j]? = some u → w.cell? (a.add j) = some u := by
  intro j u hu
  obtain ⟨y, hy, rfl⟩ := row8_inv hu
  obtain ⟨b', o', e, hb, hc⟩ := h.rd (by rintro rfl; simp at hy)
  cases e
  have hadd : (⟨b', o', none⟩ : Addr).add j = ⟨b', o' + j, none⟩ := by unfold Addr.add; split <;> simp_all
  rw [hadd]
  exact hc j y hy
end Go.Proofs.YtfolamkjlgpgmaaGreatDoor

/- append of bytes to bytes of one's own, clipped or not. No condition but that they are few. -/
namespace Go.Proofs.YtfolamkjlgpgmaaGreatDoor
open Go.RowKit
set_option linter.unusedVariables false
set_option linter.unusedSimpArgs false
theorem own_bs2 {w : World} {base n c : Nat} {A : Option Addr} {l : List Nat} (h : w.ownsRow base 5 1 (.slice A n c) n (row8 l)) (hn : l.length = n) : Bs w w.heap.size A c l := by
  subst hn
  obtain ⟨A2, c2, e, h2, _⟩ := Bs.own h
  cases e
  exact h2
/-- bytes of one's own, clipped or with all their room -/
def OwnC (W : World) (base : Nat) (v : Value) (l : List Nat) : Prop := ∃ A c k, v = .slice A l.length c ∧ (c = k ∨ c = l.length) ∧ l.length ≤ c ∧ c ≤ k ∧ W.ownsRow base 5 1 (.slice A l.length k) l.length (row8 l)
theorem OwnC.of_own {W : World} {base : Nat} {v : Value} {l : List Nat} (h : W.ownsRow base 5 1 v l.length (row8 l)) : OwnC W base v l := by
  obtain ⟨A, c, rfl, hc⟩ := own_slice2 h
  exact ⟨A, c, c, rfl, .inl rfl, hc, Nat.le_refl _, h⟩
theorem OwnC.below {W W' : World} {base : Nat} {v : Value} {l : List Nat} (h : OwnC W base v l) (hb : Below W.heap.size W W') : OwnC W' base v l := by
  obtain ⟨A, c, k, h1, h2, h3, h4, h5⟩ := h
  exact ⟨A, c, k, h1, h2, h3, h4, own_below h5 hb⟩
theorem OwnC.bs {W : World} {base : Nat} {A : Option Addr} {n c : Nat} {l : List Nat} (h : OwnC W base (.slice A n c) l) : Bs W W.heap.size A c l := by
  obtain ⟨A2, c2, k, h1, h2, h3, h4, h5⟩ := h
  cases h1
  have hb := own_bs2 h5 rfl
  refine ⟨hb.rd, h3, fun e => ⟨(hb.nil e).1, ?_⟩, by have := hb.max; omega⟩
  have := (hb.nil e).2
  omega
theorem app8 {ops : Array Oper} {rest : List Oper} {o : Oper} {a : Act} {Q : Exit → Act → World → Prop} {w : World} (hgd : o.guard = none) (s x : Operand) (ho : o.op = .call { callee := .builtin .append, args := #[s, x], argTypes := #[22, 22] })
    (base : Nat) (v : Value) (l : List Nat) (hs : a.eval s = v) (hv : OwnC w base v l) (ad : Addr) (m c : Nat) (d : List Nat) (hx : a.eval x = .slice (some ad) m c) (hd : d.length = m) (hm : 0 < m) (hc : ∀ j u, (row8 d)[j]? = some u → w.cell? (ad.add j) = some u)
    (hfew : l.length + m ≤ 1000000000) (hbase : base ≤ w.heap.size)
    (h : ∀ v' w', w'.ownsRow base 5 1 v' (l.length + m) (row8 (l ++ d)) → Below base w w' → wpList Tryz.prog ops Q rest (a.put o.dst v') w') : wpList Tryz.prog ops Q (o :: rest) a w := by
  obtain ⟨i5, hi, hz0, hz1, hz2⟩ := info_parts info5
  obtain ⟨A, cc, k, rfl, h1, h2, h3, h4⟩ := hv
  by_cases hck : cc = k
  · subst hck
    refine wpList_append_own _ hgd s x 22 ho base 5 i5 (.int .u8 0) 1 1 Tryz.underlying22 hi hz0 hz1 hz2 rfl (by decide) _ l.length _ hs h4 ad m c (row8 d) hx (by rw [row8_length]; omega) hc (row8_one _) (by unfold maxLen; omega) (by omega) hbase ?_
    intro v' w' g1 g2 _
    rw [← row8_append] at g1
    exact h v' w' g1 (Below.grown' (Below.refl _ _) g2 hbase (fun k hk => (h4.lt k hk).1))
  · have hcl : cc = l.length := by rcases h1 with h1 | h1 <;> omega
    subst hcl
    refine wpList_append_grows _ hgd s x 22 ho 5 i5 (.int .u8 0) 1 1 Tryz.underlying22 hi hz0 hz1 hz2 rfl (by decide) A l.length l.length (row8 l) hs (fun e => ?_) (by rw [row8_length]; omega) (fun b e => ?_) ad m c (row8 d) hx (by rw [row8_length]; omega) hc (row8_one _) (by omega) (by unfold maxLen; omega) (by omega) ?_
    · rcases h4.2 with ⟨_, h0⟩ | ⟨g, cap, cur, e2, _⟩
      · exact ⟨h0, h0⟩
      · rw [e] at e2; cases e2
    · rcases h4.2 with ⟨e2, h0⟩ | ⟨g, cap, cur, e2, _⟩
      · rw [e] at e2; cases e2
      · rw [e] at e2; cases e2
        subst e
        exact h4.cells (g := g) rfl
    · intro v' w' g1 g2
      rw [← row8_append] at g1
      exact h v' w' (own_mono g1 hbase) (Below.grown' (Below.refl _ _) g2 hbase (fun k hk => by cases hk))
end Go.Proofs.YtfolamkjlgpgmaaGreatDoor
