/- The document's Learn: the list gone through. No condition but that the numbers fit. -/
import Derived.Test.YtkhbchgocilclaaPlayE
namespace Go.Proofs.Ytkhbchgocilclaa
open Go.RowKit
set_option linter.unusedVariables false
set_option linter.unusedSimpArgs false
theorem built69 (a : Nat → Nat) (n t : Nat) : Try.prog.built 69 [(0, .agg (preL a n).toArray), (1, .int .u64 (t : Int))] = some (preL a n ++ [Value.int .u64 (t : Int)]).toArray := by kernel_rfl
/-- one step of the document's Learn -/
def refOne (y : PKey) (t : Nat) (pos can : Bool) (s : List Ent × Bool) (x : Ent) : List Ent × Bool :=
  if numK x.1 = numK y then (if pos then s.1 ++ [(y, t)] else s.1, true)
  else if (!s.2 && decide (numK y < numK x.1) && can) = true then (s.1 ++ [(y, t)] ++ [x], true)
  else (s.1 ++ [x], s.2)
def refFold (y : PKey) (t : Nat) (pos can : Bool) (L : List Ent) : List Ent × Bool := L.foldl (refOne y t pos can) ([], false)
theorem refFold_snoc (y : PKey) (t : Nat) (pos can : Bool) (L : List Ent) {k : Nat} {e : Ent} (h : L[k]? = some e) : refFold y t pos can (L.take (k + 1)) = refOne y t pos can (refFold y t pos can (L.take k)) e := by
  unfold refFold; rw [List.take_add_one, h, List.foldl_append]; rfl
theorem refOne_len (y : PKey) (t : Nat) (pos can : Bool) (s : List Ent × Bool) (x : Ent) : (refOne y t pos can s x).1.length ≤ s.1.length + 2 := by
  unfold refOne
  split
  · split <;> simp
  · split <;> simp
theorem refFold_len (y : PKey) (t : Nat) (pos can : Bool) (L : List Ent) : (refFold y t pos can L).1.length ≤ 2 * L.length := by
  have key : ∀ (L : List Ent) (s : List Ent × Bool), (L.foldl (refOne y t pos can) s).1.length ≤ s.1.length + 2 * L.length := by
    intro L
    induction L with
    | nil => intro s; simp
    | cons x L ih =>
      intro s
      have h1 := ih (refOne y t pos can s x)
      have h2 := refOne_len y t pos can s x
      rw [List.foldl_cons, List.length_cons]; omega
  have := key L ([], false)
  simpa [refFold] using this
theorem preEq_num (x y : PKey) : preEq (adrOf x) (bitsOf x) (adrOf y) (bitsOf y) = decide (numK x = numK y) := by
  rw [Bool.eq_iff_iff, preEq_iff, decide_eq_true_eq]
  constructor
  · rintro ⟨h1, h2⟩
    rw [numK_eq, numK_eq, adrNe_false (adrNe_eq h1)]
    unfold bitsOf at h2
    rw [h2]
  · intro h
    rw [numK_inj h]; exact ⟨fun _ _ => rfl, rfl⟩
theorem hasL_num (L : List Ent) (y : PKey) : hasL L (adrOf y) (bitsOf y) = L.any fun e => decide (numK e.1 = numK y) := by
  unfold hasL
  congr 1
  funext e
  exact preEq_num e.1 y
/-- what the loop holds -/
structure LInv (base mk cap Bi Bp : Nat) (p : Option Addr) (ii : Info) (y : PKey) (L : List Ent) (out : Value) (O : List Ent) (w wr : World) : Prop where
  V : RefV base mk p cap L w
  below : Below w.heap.size w wr
  hp : wr.heap[Bp]? = some (.cells (preCells (adrOf y) (bitsOf y)) 25 (0, 0))
  hi : wr.heap[Bi]? = some (.cells ii.cells 28 (0, 0))
  own : wr.ownsRow w.heap.size 69 18 out O.length (O.flatMap encE)
  np : out.ownBlock ≠ some Bp
  ni : out.ownBlock ≠ some Bi
theorem LInv.step {base mk cap Bi Bp : Nat} {p : Option Addr} {ii : Info} {y : PKey} {L : List Ent} {out : Value} {O : List Ent} {w wr w2 : World} (I : LInv base mk cap Bi Bp p ii y L out O w wr) (hb : Below wr.heap.size wr w2) : LInv base mk cap Bi Bp p ii y L out O w w2 :=
  ⟨I.V, I.below.trans (hb.mono I.below.size), (hb.block _ (lt_of_blk I.hp)).trans I.hp, (hb.block _ (lt_of_blk I.hi)).trans I.hi, own_belowE I.own hb, I.np, I.ni⟩
theorem LInv.ref {base mk cap Bi Bp : Nat} {p : Option Addr} {ii : Info} {y : PKey} {L : List Ent} {out : Value} {O : List Ent} {w wr : World} (I : LInv base mk cap Bi Bp p ii y L out O w wr) : RefV base mk p cap L wr := I.V.step I.below
theorem LInv.grown {base mk cap Bi Bp : Nat} {p : Option Addr} {ii : Info} {y : PKey} {L : List Ent} {out out' : Value} {O O' : List Ent} {w wr w2 : World} (I : LInv base mk cap Bi Bp p ii y L out O w wr) (hg : wr.grownBy w2 out.ownBlock) (ho : w2.ownsRow w.heap.size 69 18 out' O'.length (O'.flatMap encE)) : LInv base mk cap Bi Bp p ii y L out' O' w w2 := by
  have hp2 : w2.heap[Bp]? = some (.cells (preCells (adrOf y) (bitsOf y)) 25 (0, 0)) := (hg.block Bp (lt_of_blk I.hp) (fun e => I.np e.symm)).trans I.hp
  have hi2 : w2.heap[Bi]? = some (.cells ii.cells 28 (0, 0)) := (hg.block Bi (lt_of_blk I.hi) (fun e => I.ni e.symm)).trans I.hi
  refine ⟨I.V, I.below.grown hg I.below.size (fun k hk => own_geE I.own k hk), hp2, hi2, ho, fun e => ?_, fun e => ?_⟩
  · rcases ho.2 with ⟨h, _⟩ | ⟨g, cp, cur, h, _, h2, _⟩
    · rw [h] at e; cases e
    · rw [h] at e
      have e' : g = Bp := by injection e
      rw [e', hp2] at h2; injection h2 with x; injection x with _ x; cases x
  · rcases ho.2 with ⟨h, _⟩ | ⟨g, cp, cur, h, _, h2, hn, hm, hs, _⟩
    · rw [h] at e; cases e
    · rw [h] at e
      have e' : g = Bi := by injection e
      rw [e', hi2] at h2; injection h2 with x; injection x with _ x; cases x
theorem LInv.ci {base mk cap Bi Bp : Nat} {p : Option Addr} {ii : Info} {y : PKey} {L : List Ent} {out : Value} {O : List Ent} {w wr : World} (I : LInv base mk cap Bi Bp p ii y L out O w wr) : wr.cell? ⟨Bi, 19, none⟩ = some (.int .u32 (ii.v : Int)) := by rw [cell_blk I.hi]; exact ii.get.2
theorem LInv.app {base mk cap Bi Bp : Nat} {p : Option Addr} {ii : Info} {y : PKey} {L : List Ent} {out v' : Value} {O : List Ent} {w wr w8 : World} (I : LInv base mk cap Bi Bp p ii y L out O w wr) {o : Obj} (e : Ent) (hg : (wr.alloc o).grownBy w8 out.ownBlock)
    (ho : w8.ownsRow w.heap.size 69 18 v' (O.length + 1) (O.flatMap encE ++ (preL (adrOf e.1) (bitsOf e.1) ++ [Value.int .u64 (e.2 : Int)]))) : LInv base mk cap Bi Bp p ii y L v' (O ++ [e]) w w8 := by
  refine (I.step (((Below.refl _ _).alloc (Nat.le_refl _) o))).grown hg ?_
  rw [List.length_append, List.flatMap_append]
  have e2 : [e].flatMap encE = preL (adrOf e.1) (bitsOf e.1) ++ [Value.int .u64 (e.2 : Int)] := by simp [encE_pre]
  rw [e2]; exact ho
theorem own_lt {w : World} {B n : Nat} {v : Value} {xs : List Value} (h : w.ownsRow B 69 18 v n xs) (k : Nat) (hk : v.ownBlock = some k) : k < w.heap.size := by
  rcases h.2 with ⟨e, _⟩ | ⟨g, cap, cur, e, _, hg, _⟩
  · rw [e] at hk; cases hk
  · rw [e] at hk
    have e' : g = k := by injection hk
    rw [← e']; exact lt_of_blk hg
def refLearnL (y : PKey) (t : Nat) (pos : Bool) (L : List Ent) : List Ent × Bool :=
  let s := refFold y t pos (!(L.any fun e => decide (numK e.1 = numK y)) && pos && decide (L.length < 8)) L
  if (!s.2 && pos && decide (L.length < 8)) = true then (s.1 ++ [(y, t)], true) else s
theorem xx_grown {w w8 : World} {X : Nat} {l : List Value} {o : Obj} {row : Option Nat} (h : w.rangeAt X 0 l) (hlt : X < w.heap.size) (hg : (w.alloc o).grownBy w8 row) (hne : row ≠ some X) : w8.rangeAt X 0 l := fun j v hj => by
  have b1 := (Below.refl w.heap.size w).alloc (Nat.le_refl _) o
  have hx : w8.heap[X]? = w.heap[X]? := (hg.block X (Nat.lt_of_lt_of_le hlt b1.size) (fun e => hne e.symm)).trans (b1.block X hlt)
  rw [← h j v hj]
  simp only [World.cell?, hx]
theorem range_ent {w : World} {b : Nat} {t : TypeId} {z : Nat × Nat} {l : List Value} (h : w.heap[b]? = some (.cells l.toArray t z)) : w.rangeAt b 0 l := fun j v hj => by
  rw [Nat.zero_add, cell_blk h]; simpa using hj
set_option maxRecDepth 100000 in
set_option maxHeartbeats 20000000 in
theorem rest16 {base mk cap Bi Bp now t : Nat} {p : Option Addr} {ii : Info} {y : PKey} {L : List Ent} {w wr : World} (I0 : LInv base mk cap Bi Bp p ii y L (.slice none 0 0) [] w wr) (hlen : L.length ≤ 8) (hbase : base ≤ w.heap.size)
    {u2 u3 u4 u6 u9 u10 u11 u12 u13 u14 u15 u16 u17 u18 u19 u20 u21 u22 u23 u24 u25 u26 u27 u28 u29 u30 u31 u32 u33 u34 u35 u36 u37 u38 u39 u40 u41 u42 u43 u44 u45 u46 u47 u48 u49 u50 u51 u52 u53 u54 u55 u56 u57 u58 u59 u60 u61 u62 u63 u64 u65 u66 u67 u68 u69 u70 u71 u72 u73 u74 u75 u76 u77 u78 u79 u80 u81 u82 u83 u84 u85 u86 u87 u88 u89 u90 u91 u92 u93 u94 u95 u96 u97 u98 u99 u100 u101 u102 u103 u104 u105 u106 u107 u108 u109 u110 u111 u112 u113 u114 u115 u116 u117 u118 u119 u120 u121 u122 u123 u124 u125 u126 u127 u128 u129 u130 u131 u132 u133 u134 u135 u136 u137 u138 u139 u140 u141 u142 u143 u144 u145 u146 u147 u148 u149 u150 u151 u152 u153 u154 u155 : Value} :
    (codeAt [1,1,1,1,1,1] (Try.f16.body.getD .skip)).wp Try.prog (bodyPost Try.prog Try.f16 fun e w' => e = .returned (.bool (refLearnL y t (decide (0 < ii.v)) L).2) ∧ RefTurned base mk (refLearnL y t (decide (0 < ii.v)) L).1 w w') ⟨(List.toArray (.pointer (some ⟨mk, 0, none⟩) :: .int .u64 (now : Int) :: u2 :: u3 :: u4 :: .pointer (some ⟨Bi, 0, none⟩) :: u6 :: .pointer (some ⟨Bp, 0, none⟩) :: .int .u64 (t : Int) :: u9 :: u10 :: u11 :: u12 :: u13 :: u14 :: u15 :: u16 :: u17 :: u18 :: u19 :: u20 :: u21 :: u22 :: u23 :: u24 :: u25 :: u26 :: u27 :: u28 :: u29 :: u30 :: u31 :: u32 :: u33 :: u34 :: u35 :: u36 :: u37 :: u38 :: u39 :: u40 :: u41 :: u42 :: u43 :: u44 :: u45 :: u46 :: u47 :: u48 :: u49 :: u50 :: u51 :: u52 :: u53 :: u54 :: u55 :: u56 :: u57 :: u58 :: u59 :: u60 :: u61 :: u62 :: u63 :: u64 :: u65 :: u66 :: u67 :: u68 :: u69 :: u70 :: u71 :: u72 :: u73 :: u74 :: u75 :: u76 :: u77 :: u78 :: u79 :: u80 :: u81 :: u82 :: u83 :: u84 :: u85 :: u86 :: u87 :: u88 :: u89 :: u90 :: u91 :: u92 :: u93 :: u94 :: u95 :: u96 :: u97 :: u98 :: u99 :: u100 :: u101 :: u102 :: u103 :: u104 :: u105 :: u106 :: u107 :: u108 :: u109 :: u110 :: u111 :: u112 :: u113 :: u114 :: u115 :: u116 :: u117 :: u118 :: u119 :: u120 :: u121 :: u122 :: u123 :: u124 :: u125 :: u126 :: u127 :: u128 :: u129 :: u130 :: u131 :: u132 :: u133 :: u134 :: u135 :: u136 :: u137 :: u138 :: u139 :: u140 :: u141 :: u142 :: u143 :: u144 :: u145 :: u146 :: u147 :: u148 :: u149 :: u150 :: u151 :: u152 :: u153 :: u154 :: u155 :: [])), []⟩ wr := by
  have HI0 := Lib.hid I0
  clear I0
  obtain ⟨pos, hpos⟩ : ∃ b, b = decide (0 < ii.v) := ⟨_, rfl⟩
  rw [← hpos]
  obtain ⟨can, hcan⟩ : ∃ b, b = (!(L.any fun e => decide (numK e.1 = numK y)) && pos && decide (L.length < 8)) := ⟨_, rfl⟩
  have HPOS := Lib.hid hpos; have HCAN := Lib.hid hcan
  clear hpos hcan
  conv in codeAt _ _ => whnf
  go_wp2_with fail
  go_loopw [9, 10, 11, 12] (fun out dn pt i wr => ∃ k : Nat, k ≤ L.length ∧ i = .int .i64 k ∧ dn = .bool (refFold y t pos can (L.take k)).2 ∧ pt = .bool (refFold y t pos can (L.take k)).2 ∧ LInv base mk cap Bi Bp p ii y L out (refFold y t pos can (L.take k)).1 w wr) (fun out dn pt i _ => L.length - (intOf i).toNat)
  case atStart => exact ⟨0, by omega, rfl, rfl, rfl, HI0.out⟩
  case round =>
    clear HI0
    obtain ⟨k, hk, rfl, rfl, rfl, I⟩ := hrel
    have cm := cell_blk I.ref.h 0
    have hl16 : (refFold y t pos can (L.take k)).1.length ≤ 16 := by
      have := refFold_len y t pos can (L.take k)
      rw [List.length_take] at this; omega
    by_cases hlt : k < L.length
    · obtain ⟨e, he⟩ : ∃ e, L[k]? = some e := ⟨L[k], List.getElem?_eq_getElem hlt⟩
      obtain ⟨g, rfl, hg, hR⟩ := I.ref.row.row (by omega)
      have hk1 : ¬ ((L.length : Int) ≤ k) := by omega
      have hk2 : (k : Int) < L.length := by omega
      have hra := hR.all he
      rw [encE_pre] at hra
      have HRA := Lib.hid hra
      have HSN := Lib.hid (refFold_snoc y t pos can L he)
      generalize refFold y t pos can (L.take k) = s at *
      obtain ⟨O, b⟩ := s
      dsimp only at I hl16 ⊢
      have hnew := heap_alloc_new wr (.cells #[.int .u8 0, .int .u8 0, .int .u8 0, .int .u8 0, .int .u8 0, .int .u8 0, .int .u8 0, .int .u8 0, .int .u8 0, .int .u8 0, .int .u8 0, .int .u8 0, .int .u8 0, .int .u8 0, .int .u8 0, .int .u8 0, .int .u8 0, .int .u64 0] 69)
      have t6 := Turned.setRow hnew (preL (adrOf e.1) (bitsOf e.1) ++ [Value.int .u64 (e.2 : Int)]).toArray
      have B6 : Below wr.heap.size wr ((wr.alloc (.cells #[.int .u8 0, .int .u8 0, .int .u8 0, .int .u8 0, .int .u8 0, .int .u8 0, .int .u8 0, .int .u8 0, .int .u8 0, .int .u8 0, .int .u8 0, .int .u8 0, .int .u8 0, .int .u8 0, .int .u8 0, .int .u8 0, .int .u8 0, .int .u64 0] 69)).setRow wr.heap.size (preL (adrOf e.1) (bitsOf e.1) ++ [Value.int .u64 (e.2 : Int)]).toArray) := ((Below.refl _ _).alloc (Nat.le_refl _) _).trans (t6.below (Nat.le_refl _))
      have hn6 := t6.get (by simp)
      have I6 := I.step B6
      have hz6 : (((wr.alloc (.cells #[.int .u8 0, .int .u8 0, .int .u8 0, .int .u8 0, .int .u8 0, .int .u8 0, .int .u8 0, .int .u8 0, .int .u8 0, .int .u8 0, .int .u8 0, .int .u8 0, .int .u8 0, .int .u8 0, .int .u8 0, .int .u8 0, .int .u8 0, .int .u64 0] 69)).setRow wr.heap.size (preL (adrOf e.1) (bitsOf e.1) ++ [Value.int .u64 (e.2 : Int)]).toArray)).heap.size = wr.heap.size + 1 := by simp [World.setRow]
      have hsz : 18 = (preL (adrOf e.1) (bitsOf e.1) ++ [Value.int .u64 (e.2 : Int)]).toArray.size := by simp [preL_length]
      have hxx := range_ent hn6
      have hx : (((wr.alloc (.cells #[.int .u8 0, .int .u8 0, .int .u8 0, .int .u8 0, .int .u8 0, .int .u8 0, .int .u8 0, .int .u8 0, .int .u8 0, .int .u8 0, .int .u8 0, .int .u8 0, .int .u8 0, .int .u8 0, .int .u8 0, .int .u8 0, .int .u8 0, .int .u64 0] 69)).setRow wr.heap.size (preL (adrOf e.1) (bitsOf e.1) ++ [Value.int .u64 (e.2 : Int)]).toArray)).rangeAt wr.heap.size 0 (preL (adrOf e.1) (bitsOf e.1)) := fun j v hj => hxx j v (by rw [List.getElem?_append_left (List.getElem?_eq_some_iff.1 hj).1]; exact hj)
      have c19 := I6.ci
      have cm6 := cell_blk I6.ref.h 0
      have hpl := preL_length (adrOf e.1) (bitsOf e.1)
      have hpl2 := preL_length (adrOf y) (bitsOf y)
      obtain ⟨i69, hi69, hz0, hz1, hz2⟩ := info_parts info69
      have HN := Lib.hid hnew; have HI6 := Lib.hid I6; have HZ := Lib.hid hz6; have HS := Lib.hid hsz; have HXX := Lib.hid hxx; have HX := Lib.hid hx; have HP6 := Lib.hid (range_preL I6.hp); have HN6 := Lib.hid hn6
      have HLN := Lib.hid (show O.length + 1 ≤ 17 by omega)
      have HSZ := Lib.hid I.below.size
      have HE := Lib.hid he
      have HXO := Lib.hid (show u9.ownBlock ≠ some wr.heap.size from fun e => by have := own_lt I.own _ e; omega)
      have hEQ := fun W => pre_eql (adrOf_lt e.1) (adrOf_lt y) (bitsOf_lt e.1) (bitsOf_lt y) W
      rw [preEq_num] at hEQ
      clear hnew t6 B6 hn6 I6 hz6 hsz hxx hx I hra hR he hl16
      by_cases heq : numK e.1 = numK y
      · rw [decide_eq_true heq] at hEQ
        have HEQ := fun W => hEQ W
        have HK := Lib.hid heq
        clear hEQ heq
        by_cases hp0 : 0 < ii.v
        · have tp : decide ((0 : Int) < ii.v) = true := by simp; omega
          have HP0 := Lib.hid hp0; clear hp0
          go_wp2_with (first | (at_builtin; refine wpList_append_own _ rfl _ _ 49 rfl w.heap.size 69 i69 _ 18 32 Try.underlying49 hi69 hz0 hz1 hz2 rfl (by decide) _ _ _ rfl (own_belowE HI6.out.own ((Below.refl _ _).alloc (Nat.le_refl _) _)) ⟨wr.heap.size + 1, 0, none⟩ 1 1 (preL (adrOf y) (bitsOf y) ++ [Value.int .u64 (t : Int)]) rfl (by simp [preL_length]) (newsT 69 HZ.out (adrOf y) (bitsOf y) t) (ent_one _ _ _) (by have := HLN.out; unfold maxLen; omega) (by have := HLN.out; omega) (by have := HSZ.out; simp [World.setRow]; omega) ?_; intro v7 w7 hown7 hgr7 hnil7) | (refine wpList_store_row rfl 69 _ _ rfl wr.heap.size (preL (adrOf e.1) (bitsOf e.1) ++ [Value.int .u64 (e.2 : Int)]).toArray rfl rfl 69 _ HN.out (by rw [← HS.out]; kernel_rfl) HS.out (all_oneCell_toArray (ent_one _ _ _)) ?_) | (refine wpList_load_mid rfl 69 _ rfl g (k * 18) rfl (preL (adrOf e.1) (bitsOf e.1) ++ [Value.int .u64 (e.2 : Int)]) _ HRA.out Try.underlying69 rfl (size69 _ _ _) ?_) | (refine wpList_load_mid rfl 25 _ rfl wr.heap.size 0 rfl (preL (adrOf e.1) (bitsOf e.1)) _ HX.out Try.underlying25 rfl (info25 _ _) ?_) | (refine wpList_load_mid rfl 25 _ rfl Bp 0 rfl (preL (adrOf y) (bitsOf y)) _ HP6.out Try.underlying25 rfl (info25 _ _) ?_) | (refine wpList_build2 rfl 69 0 1 _ _ rfl (.agg (preL (adrOf y) (bitsOf y)).toArray) (.int .u64 (t : Int)) rfl rfl (preL (adrOf y) (bitsOf y) ++ [Value.int .u64 (t : Int)]).toArray (built69 _ _ t) ?_))
          case roundEnd =>
            have hg7 : World.grownBy _ w7 u9.ownBlock := hgr7
            have I7 := HI6.out.app (y, t) hg7 hown7
            have e1 : refFold y t pos can (L.take (k + 1)) = (O ++ [(y, t)], true) := by
              rw [HSN.out]; unfold refOne; rw [if_pos HK.out, HPOS.out, decide_eq_true HP0.out]; rfl
            exact ⟨⟨k + 1, by omega, rfl, by rw [e1], by rw [e1], by rw [e1]; exact I7⟩, by simp [intOf]; omega⟩
        · have tp : decide ((0 : Int) < ii.v) = false := by simp; omega
          have HP0 := Lib.hid hp0; clear hp0
          go_wp2_with (first | (refine wpList_store_row rfl 69 _ _ rfl wr.heap.size (preL (adrOf e.1) (bitsOf e.1) ++ [Value.int .u64 (e.2 : Int)]).toArray rfl rfl 69 _ HN.out (by rw [← HS.out]; kernel_rfl) HS.out (all_oneCell_toArray (ent_one _ _ _)) ?_) | (refine wpList_load_mid rfl 69 _ rfl g (k * 18) rfl (preL (adrOf e.1) (bitsOf e.1) ++ [Value.int .u64 (e.2 : Int)]) _ HRA.out Try.underlying69 rfl (size69 _ _ _) ?_) | (refine wpList_load_mid rfl 25 _ rfl wr.heap.size 0 rfl (preL (adrOf e.1) (bitsOf e.1)) _ HX.out Try.underlying25 rfl (info25 _ _) ?_) | (refine wpList_load_mid rfl 25 _ rfl Bp 0 rfl (preL (adrOf y) (bitsOf y)) _ HP6.out Try.underlying25 rfl (info25 _ _) ?_))
          case roundEnd =>
            have e1 : refFold y t pos can (L.take (k + 1)) = (O, true) := by
              rw [HSN.out]; unfold refOne; rw [if_pos HK.out, HPOS.out, decide_eq_false HP0.out]; rfl
            exact ⟨⟨k + 1, by omega, rfl, by rw [e1], by rw [e1], by rw [e1]; exact HI6.out⟩, by simp [intOf]; omega⟩
      · rw [decide_eq_false heq] at hEQ
        have HEQ := fun W => hEQ W
        have HK := Lib.hid heq
        clear hEQ heq
        cases hb : b with
        | true =>
          subst hb
          go_wp2_with (first | (at_builtin; refine wpList_append_own _ rfl _ _ 49 rfl w.heap.size 69 i69 _ 18 32 Try.underlying49 hi69 hz0 hz1 hz2 rfl (by decide) _ _ _ rfl (own_belowE HI6.out.own ((Below.refl _ _).alloc (Nat.le_refl _) _)) ⟨wr.heap.size + 1, 0, none⟩ 1 1 (preL (adrOf e.1) (bitsOf e.1) ++ [Value.int .u64 (e.2 : Int)]) rfl (by simp [preL_length]) (newsT 69 HZ.out (adrOf e.1) (bitsOf e.1) e.2) (ent_one _ _ _) (by have := HLN.out; unfold maxLen; omega) (by have := HLN.out; omega) (by have := HSZ.out; simp [World.setRow]; omega) ?_; intro v7 w7 hown7 hgr7 hnil7) | (refine wpList_store_row rfl 69 _ _ rfl wr.heap.size (preL (adrOf e.1) (bitsOf e.1) ++ [Value.int .u64 (e.2 : Int)]).toArray rfl rfl 69 _ HN.out (by rw [← HS.out]; kernel_rfl) HS.out (all_oneCell_toArray (ent_one _ _ _)) ?_) | (refine wpList_load_mid rfl 69 _ rfl g (k * 18) rfl (preL (adrOf e.1) (bitsOf e.1) ++ [Value.int .u64 (e.2 : Int)]) _ HRA.out Try.underlying69 rfl (size69 _ _ _) ?_) | (refine wpList_load_mid rfl 69 _ rfl wr.heap.size 0 rfl (preL (adrOf e.1) (bitsOf e.1) ++ [Value.int .u64 (e.2 : Int)]) _ HXX.out Try.underlying69 rfl (size69 _ _ _) ?_) | (refine wpList_load_mid rfl 25 _ rfl wr.heap.size 0 rfl (preL (adrOf e.1) (bitsOf e.1)) _ HX.out Try.underlying25 rfl (info25 _ _) ?_) | (refine wpList_load_mid rfl 25 _ rfl Bp 0 rfl (preL (adrOf y) (bitsOf y)) _ HP6.out Try.underlying25 rfl (info25 _ _) ?_))
          case roundEnd =>
            have hg7 : World.grownBy _ w7 u9.ownBlock := hgr7
            have I7 := HI6.out.app e hg7 hown7
            have e1 : refFold y t pos can (L.take (k + 1)) = (O ++ [e], true) := by
              rw [HSN.out]; unfold refOne; rw [if_neg HK.out]; rfl
            exact ⟨⟨k + 1, by omega, rfl, by rw [e1], by rw [e1], by rw [e1]; exact I7⟩, by simp [intOf]; omega⟩
        | false =>
          subst hb
          go_wp2_with (first | (refine wpList_store_row rfl 69 _ _ rfl wr.heap.size (preL (adrOf e.1) (bitsOf e.1) ++ [Value.int .u64 (e.2 : Int)]).toArray rfl rfl 69 _ HN.out (by rw [← HS.out]; kernel_rfl) HS.out (all_oneCell_toArray (ent_one _ _ _)) ?_) | (refine wpList_load_mid rfl 69 _ rfl g (k * 18) rfl (preL (adrOf e.1) (bitsOf e.1) ++ [Value.int .u64 (e.2 : Int)]) _ HRA.out Try.underlying69 rfl (size69 _ _ _) ?_) | (refine wpList_load_mid rfl 25 _ rfl wr.heap.size 0 rfl (preL (adrOf e.1) (bitsOf e.1)) _ HX.out Try.underlying25 rfl (info25 _ _) ?_) | (refine wpList_load_mid rfl 25 _ rfl Bp 0 rfl (preL (adrOf y) (bitsOf y)) _ HP6.out Try.underlying25 rfl (info25 _ _) ?_) | (refine wpList_load_mid_g rfl 25 _ rfl wr.heap.size 0 rfl (preL (adrOf e.1) (bitsOf e.1)) _ HX.out Try.underlying25 rfl (info25 _ _) ?_) | (refine wpList_load_mid_g rfl 25 _ rfl Bp 0 rfl (preL (adrOf y) (bitsOf y)) _ HP6.out Try.underlying25 rfl (info25 _ _) ?_))
          generalize ((wr.alloc (.cells #[.int .u8 0, .int .u8 0, .int .u8 0, .int .u8 0, .int .u8 0, .int .u8 0, .int .u8 0, .int .u8 0, .int .u8 0, .int .u8 0, .int .u8 0, .int .u8 0, .int .u8 0, .int .u8 0, .int .u8 0, .int .u8 0, .int .u8 0, .int .u64 0] 69)).setRow wr.heap.size (preL (adrOf e.1) (bitsOf e.1) ++ [Value.int .u64 (e.2 : Int)]).toArray) = w6 at *
          refine (before32 y e.1 _).mono ?_
          rintro e9 w9 ⟨rfl, b9⟩
          have hXlt := lt_of_blk HN6.out
          have I9 := HI6.out.step b9
          have hxx9 : w9.rangeAt wr.heap.size 0 (preL (adrOf e.1) (bitsOf e.1) ++ [Value.int .u64 (e.2 : Int)]) := fun j v hj => (b9.cell (p := ⟨wr.heap.size, 0 + j, none⟩) hXlt).trans (HXX.out j v hj)
          obtain ⟨X, hX⟩ : ∃ X, X = wr.heap.size := ⟨_, rfl⟩
          have hXlt9 : X < w9.heap.size := by rw [hX]; exact Nat.lt_of_lt_of_le hXlt b9.size
          have hxo := HXO.out
          rw [← hX] at hxx9 hxo ⊢
          have HXO2 := Lib.hid hxo
          have c199 := I9.ci
          have cm9 := cell_blk I9.ref.h 0
          have HI9 := Lib.hid I9; have HXX9 := Lib.hid hxx9; have HP9 := Lib.hid (range_preL I9.hp); have HXL9 := Lib.hid hXlt9
          clear b9 hXlt I9 hxx9 hxo HXO HI6 HXX HX HP6 HN6 HN HS HZ hX c19 cm6 hXlt9
          cases hlt9 : decide (numK y < numK e.1) with
          | false =>
            have HLT := Lib.hid hlt9; clear hlt9
            go_wp2_with (first | (at_builtin; refine wpList_append_own _ rfl _ _ 49 rfl w.heap.size 69 i69 _ 18 32 Try.underlying49 hi69 hz0 hz1 hz2 rfl (by decide) _ _ _ rfl (own_belowE HI9.out.own ((Below.refl _ _).alloc (Nat.le_refl _) _)) ⟨w9.heap.size, 0, none⟩ 1 1 (preL (adrOf e.1) (bitsOf e.1) ++ [Value.int .u64 (e.2 : Int)]) rfl (by simp [preL_length]) (newsT 69 rfl (adrOf e.1) (bitsOf e.1) e.2) (ent_one _ _ _) (by have := HLN.out; unfold maxLen; omega) (by have := HLN.out; omega) (by have := HI9.out.below.size; simp; omega) ?_; intro v7 w7 hown7 hgr7 hnil7) | (refine wpList_load_mid rfl 69 _ rfl X 0 rfl (preL (adrOf e.1) (bitsOf e.1) ++ [Value.int .u64 (e.2 : Int)]) _ HXX9.out Try.underlying69 rfl (size69 _ _ _) ?_))
            case roundEnd =>
              have hg7 : World.grownBy _ w7 u9.ownBlock := hgr7
              have I7 := HI9.out.app e hg7 hown7
              have e1 : refFold y t pos can (L.take (k + 1)) = (O ++ [e], false) := by
                rw [HSN.out]; unfold refOne; rw [if_neg HK.out, HLT.out]; rfl
              exact ⟨⟨k + 1, by omega, rfl, by rw [e1], by rw [e1], by rw [e1]; exact I7⟩, by simp [intOf]; omega⟩
          | true =>
            have HLT := Lib.hid hlt9; clear hlt9
            go_wp2_with (first | (refine wpList_load_mid_g rfl 25 _ rfl Bp 0 rfl (preL (adrOf y) (bitsOf y)) _ HP9.out Try.underlying25 rfl (info25 _ _) ?_))
            refine (has33 HI9.out.ref (adrOf y) (bitsOf y) (adrOf_lt y) (bitsOf_lt y) hlen).mono ?_
            rw [hasL_num]
            rintro e10 w10 ⟨rfl, b10⟩
            have I10 := HI9.out.step b10
            have hxx10 : w10.rangeAt X 0 (preL (adrOf e.1) (bitsOf e.1) ++ [Value.int .u64 (e.2 : Int)]) := fun j v hj => (b10.cell (p := ⟨X, 0 + j, none⟩) HXL9.out).trans (HXX9.out j v hj)
            have hXlt10 : X < w10.heap.size := Nat.lt_of_lt_of_le HXL9.out b10.size
            have c1910 := I10.ci
            have cm10 := cell_blk I10.ref.h 0
            have HI10 := Lib.hid I10; have HXX10 := Lib.hid hxx10; have HP10 := Lib.hid (range_preL I10.hp); have HXL10 := Lib.hid hXlt10
            clear b10 I10 hxx10 HI9 HXX9 HP9 HXL9 c199 cm9 hXlt10
            cases hh : L.any fun e => decide (numK e.1 = numK y) with
            | true =>
              have HH := Lib.hid hh; clear hh
              go_wp2_with (first | (at_builtin; refine wpList_append_own _ rfl _ _ 49 rfl w.heap.size 69 i69 _ 18 32 Try.underlying49 hi69 hz0 hz1 hz2 rfl (by decide) _ _ _ rfl (own_belowE HI10.out.own ((Below.refl _ _).alloc (Nat.le_refl _) _)) ⟨w10.heap.size, 0, none⟩ 1 1 (preL (adrOf e.1) (bitsOf e.1) ++ [Value.int .u64 (e.2 : Int)]) rfl (by simp [preL_length]) (newsT 69 rfl (adrOf e.1) (bitsOf e.1) e.2) (ent_one _ _ _) (by have := HLN.out; unfold maxLen; omega) (by have := HLN.out; omega) (by have := HI10.out.below.size; simp; omega) ?_; intro v7 w7 hown7 hgr7 hnil7) | (refine wpList_load_mid rfl 69 _ rfl X 0 rfl (preL (adrOf e.1) (bitsOf e.1) ++ [Value.int .u64 (e.2 : Int)]) _ HXX10.out Try.underlying69 rfl (size69 _ _ _) ?_))
              case roundEnd =>
                have hg7 : World.grownBy _ w7 u9.ownBlock := hgr7
                have I7 := HI10.out.app e hg7 hown7
                have e1 : refFold y t pos can (L.take (k + 1)) = (O ++ [e], false) := by
                  rw [HSN.out]; unfold refOne; rw [if_neg HK.out, HCAN.out, HH.out]; simp
                exact ⟨⟨k + 1, by omega, rfl, by rw [e1], by rw [e1], by rw [e1]; exact I7⟩, by simp [intOf]; omega⟩
            | false =>
              have HH := Lib.hid hh; clear hh
              by_cases hp0 : 0 < ii.v
              · have tp : decide ((0 : Int) < ii.v) = true := by simp; omega
                have HP0 := Lib.hid hp0; clear hp0
                by_cases h8 : L.length < 8
                · have t8 : decide ((L.length : Int) < 8) = true := by simp; omega
                  have H8 := Lib.hid h8; clear h8
                  have tok : True := trivial
                  go_wp2_with (first | (at_builtin; have _t := tok; refine wpList_append_own _ rfl _ _ 49 rfl w.heap.size 69 i69 _ 18 32 Try.underlying49 hi69 hz0 hz1 hz2 rfl (by decide) _ _ _ rfl (own_belowE HI10.out.own ((Below.refl _ _).alloc (Nat.le_refl _) _)) ⟨w10.heap.size, 0, none⟩ 1 1 (preL (adrOf y) (bitsOf y) ++ [Value.int .u64 (t : Int)]) rfl (by simp [preL_length]) (newsT 69 rfl (adrOf y) (bitsOf y) t) (ent_one _ _ _) (by have := HLN.out; unfold maxLen; omega) (by have := HLN.out; omega) (by have := HI10.out.below.size; simp; omega) ?_; intro v7 w7 hown7 hgr7 hnil7; clear tok; have hg7 : World.grownBy _ w7 u9.ownBlock := hgr7; have I7 := HI10.out.app (y, t) hg7 hown7; have HXX7 := Lib.hid (xx_grown HXX10.out HXL10.out hg7 HXO2.out); have HI7 := Lib.hid I7; clear I7) | (at_builtin; refine wpList_append_own _ rfl _ _ 49 rfl w.heap.size 69 i69 _ 18 32 Try.underlying49 hi69 hz0 hz1 hz2 rfl (by decide) _ _ _ rfl (own_belowE HI7.out.own ((Below.refl _ _).alloc (Nat.le_refl _) _)) ⟨w7.heap.size, 0, none⟩ 1 1 (preL (adrOf e.1) (bitsOf e.1) ++ [Value.int .u64 (e.2 : Int)]) rfl (by simp [preL_length]) (newsT 69 rfl (adrOf e.1) (bitsOf e.1) e.2) (ent_one _ _ _) (by have := HLN.out; rw [List.length_append]; show O.length + 1 + 1 ≤ _; unfold maxLen; omega) (by have := HLN.out; rw [List.length_append]; show (O.length + 1 + 1) * 32 ≤ _; omega) (by have := HI7.out.below.size; simp; omega) ?_; intro v8 w8 hown8 hgr8 hnil8) | (refine wpList_load_mid rfl 69 _ rfl X 0 rfl (preL (adrOf e.1) (bitsOf e.1) ++ [Value.int .u64 (e.2 : Int)]) _ HXX7.out Try.underlying69 rfl (size69 _ _ _) ?_) | (refine wpList_load_mid rfl 25 _ rfl Bp 0 rfl (preL (adrOf y) (bitsOf y)) _ HP10.out Try.underlying25 rfl (info25 _ _) ?_) | (refine wpList_build2 rfl 69 0 1 _ _ rfl (.agg (preL (adrOf y) (bitsOf y)).toArray) (.int .u64 (t : Int)) rfl rfl (preL (adrOf y) (bitsOf y) ++ [Value.int .u64 (t : Int)]).toArray (built69 _ _ t) ?_))
                  case roundEnd =>
                    have hg8 : World.grownBy _ w8 v7.ownBlock := hgr8
                    have I8 := HI7.out.app e hg8 hown8
                    have e1 : refFold y t pos can (L.take (k + 1)) = (O ++ [(y, t)] ++ [e], true) := by
                      rw [HSN.out]; unfold refOne; rw [if_neg HK.out, HCAN.out, HH.out, HPOS.out, decide_eq_true HP0.out, decide_eq_true H8.out, HLT.out]; rfl
                    exact ⟨⟨k + 1, by omega, rfl, by rw [e1], by rw [e1], by rw [e1]; exact I8⟩, by simp [intOf]; omega⟩
                · have t8 : decide ((L.length : Int) < 8) = false := by simp; omega
                  have H8 := Lib.hid h8; clear h8
                  go_wp2_with (first | (at_builtin; refine wpList_append_own _ rfl _ _ 49 rfl w.heap.size 69 i69 _ 18 32 Try.underlying49 hi69 hz0 hz1 hz2 rfl (by decide) _ _ _ rfl (own_belowE HI10.out.own ((Below.refl _ _).alloc (Nat.le_refl _) _)) ⟨w10.heap.size, 0, none⟩ 1 1 (preL (adrOf e.1) (bitsOf e.1) ++ [Value.int .u64 (e.2 : Int)]) rfl (by simp [preL_length]) (newsT 69 rfl (adrOf e.1) (bitsOf e.1) e.2) (ent_one _ _ _) (by have := HLN.out; unfold maxLen; omega) (by have := HLN.out; omega) (by have := HI10.out.below.size; simp; omega) ?_; intro v7 w7 hown7 hgr7 hnil7) | (refine wpList_load_mid rfl 69 _ rfl X 0 rfl (preL (adrOf e.1) (bitsOf e.1) ++ [Value.int .u64 (e.2 : Int)]) _ HXX10.out Try.underlying69 rfl (size69 _ _ _) ?_))
                  case roundEnd =>
                    have hg7 : World.grownBy _ w7 u9.ownBlock := hgr7
                    have I7 := HI10.out.app e hg7 hown7
                    have e1 : refFold y t pos can (L.take (k + 1)) = (O ++ [e], false) := by
                      rw [HSN.out]; unfold refOne; rw [if_neg HK.out, HCAN.out, decide_eq_false H8.out]; simp
                    exact ⟨⟨k + 1, by omega, rfl, by rw [e1], by rw [e1], by rw [e1]; exact I7⟩, by simp [intOf]; omega⟩
              · have tp : decide ((0 : Int) < ii.v) = false := by simp; omega
                have HP0 := Lib.hid hp0; clear hp0
                go_wp2_with (first | (at_builtin; refine wpList_append_own _ rfl _ _ 49 rfl w.heap.size 69 i69 _ 18 32 Try.underlying49 hi69 hz0 hz1 hz2 rfl (by decide) _ _ _ rfl (own_belowE HI10.out.own ((Below.refl _ _).alloc (Nat.le_refl _) _)) ⟨w10.heap.size, 0, none⟩ 1 1 (preL (adrOf e.1) (bitsOf e.1) ++ [Value.int .u64 (e.2 : Int)]) rfl (by simp [preL_length]) (newsT 69 rfl (adrOf e.1) (bitsOf e.1) e.2) (ent_one _ _ _) (by have := HLN.out; unfold maxLen; omega) (by have := HLN.out; omega) (by have := HI10.out.below.size; simp; omega) ?_; intro v7 w7 hown7 hgr7 hnil7) | (refine wpList_load_mid rfl 69 _ rfl X 0 rfl (preL (adrOf e.1) (bitsOf e.1) ++ [Value.int .u64 (e.2 : Int)]) _ HXX10.out Try.underlying69 rfl (size69 _ _ _) ?_))
                case roundEnd =>
                  have hg7 : World.grownBy _ w7 u9.ownBlock := hgr7
                  have I7 := HI10.out.app e hg7 hown7
                  have e1 : refFold y t pos can (L.take (k + 1)) = (O ++ [e], false) := by
                    rw [HSN.out]; unfold refOne; rw [if_neg HK.out, HCAN.out, HPOS.out, decide_eq_false HP0.out]; simp
                  exact ⟨⟨k + 1, by omega, rfl, by rw [e1], by rw [e1], by rw [e1]; exact I7⟩, by simp [intOf]; omega⟩
    · obtain rfl : k = L.length := by omega
      obtain ⟨s, hs⟩ : ∃ s, s = refFold y t pos can L := ⟨_, rfl⟩
      rw [List.take_length, ← hs] at I hl16
      rw [List.take_length, ← hs]
      obtain ⟨O, b⟩ := s
      dsimp only at I hl16 ⊢
      have hres : refLearnL y t pos L = if (!b && pos && decide (L.length < 8)) = true then (O ++ [(y, t)], true) else (O, b) := by
        unfold refLearnL; rw [← HCAN.out, ← hs]
      have HRS := Lib.hid hres
      have c19 := I.ci
      have hfz := frozen_blk I.ref.h 0
      have hpl2 := preL_length (adrOf y) (bitsOf y)
      obtain ⟨i69, hi69, hz0, hz1, hz2⟩ := info_parts info69
      have HLN := Lib.hid (show O.length + 1 ≤ 17 by omega)
      have HP := Lib.hid (range_preL I.hp)
      have same : ∀ hb : refLearnL y t pos L = (O, b), ∀ v0 : Value, v0 = u9 → ∃ p' cap', u9 = .slice p' O.length cap' ∧ RefTurned base mk O w (wr.setCell ⟨mk, 0, none⟩ (.slice p' O.length cap')) := fun _ _ _ => by
        obtain ⟨p', cap', hv, hR⟩ := rowV_of_own I.own
        exact ⟨p', cap', hv, ref_turned I.V I.below hR hbase⟩
      have SM := Lib.hid same
      have HI := Lib.hid I
      clear I hl16 hres hs same
      cases hb : b with
      | true =>
        subst hb
        have e1 : refLearnL y t pos L = (O, true) := by rw [HRS.out]; rfl
        obtain ⟨p', cap', hv, hT⟩ := SM.out e1 u9 rfl
        have HT := Lib.hid hT; have HE1 := Lib.hid e1
        subst hv
        clear hT e1
        go_wp2_with fail
        go_ret
        exact ⟨by rw [HE1.out]; rfl, by rw [HE1.out]; exact HT.out⟩
      | false =>
        subst hb
        by_cases hp0 : 0 < ii.v
        · have tp : decide ((0 : Int) < ii.v) = true := by simp; omega
          have HP0 := Lib.hid hp0; clear hp0
          by_cases h8 : L.length < 8
          · have t8 : decide ((L.length : Int) < 8) = true := by simp; omega
            have e1 : refLearnL y t pos L = (O ++ [(y, t)], true) := by rw [HRS.out, HPOS.out, decide_eq_true HP0.out, decide_eq_true h8]; rfl
            have HE1 := Lib.hid e1; clear e1 h8
            go_wp2_with (first | (at_builtin; refine wpList_append_own _ rfl _ _ 49 rfl w.heap.size 69 i69 _ 18 32 Try.underlying49 hi69 hz0 hz1 hz2 rfl (by decide) _ _ _ rfl (own_belowE HI.out.own ((Below.refl _ _).alloc (Nat.le_refl _) _)) ⟨wr.heap.size, 0, none⟩ 1 1 (preL (adrOf y) (bitsOf y) ++ [Value.int .u64 (t : Int)]) rfl (by simp [preL_length]) (newsT 69 rfl (adrOf y) (bitsOf y) t) (ent_one _ _ _) (by have := HLN.out; unfold maxLen; omega) (by have := HLN.out; omega) (by have := HI.out.below.size; simp; omega) ?_; intro v7 w7 hown7 hgr7 hnil7; have hg7 : World.grownBy _ w7 u9.ownBlock := hgr7; have I7 := HI.out.app (y, t) hg7 hown7; have hf7 := frozen_blk I7.ref.h 0; have cm7 := cell_blk I7.ref.h 0; obtain ⟨p7, cap7, hv7, hR7⟩ := rowV_of_own I7.own; subst hv7; have HR7 := Lib.hid hR7; have HI7 := Lib.hid I7; clear hR7 I7 hown7 hgr7 hnil7 hg7) | (refine wpList_load_mid rfl 25 _ rfl Bp 0 rfl (preL (adrOf y) (bitsOf y)) _ HP.out Try.underlying25 rfl (info25 _ _) ?_) | (refine wpList_build2 rfl 69 0 1 _ _ rfl (.agg (preL (adrOf y) (bitsOf y)).toArray) (.int .u64 (t : Int)) rfl rfl (preL (adrOf y) (bitsOf y) ++ [Value.int .u64 (t : Int)]).toArray (built69 _ _ t) ?_))
            go_ret
            exact ⟨by rw [HE1.out]; rfl, by rw [HE1.out]; have T := ref_turned (cap' := cap7) HI7.out.V HI7.out.below HR7.out hbase; simp only [List.length_append, List.length_singleton] at T; exact T⟩
          · have t8 : decide ((L.length : Int) < 8) = false := by simp; omega
            have e1 : refLearnL y t pos L = (O, false) := by rw [HRS.out, decide_eq_false h8, Bool.and_false]; rfl
            obtain ⟨p', cap', hv, hT⟩ := SM.out e1 u9 rfl
            have HT := Lib.hid hT; have HE1 := Lib.hid e1
            subst hv
            clear hT e1 h8
            go_wp2_with fail
            go_ret
            exact ⟨by rw [HE1.out]; rfl, by rw [HE1.out]; exact HT.out⟩
        · have e1 : refLearnL y t pos L = (O, false) := by rw [HRS.out, HPOS.out, decide_eq_false hp0]; rfl
          obtain ⟨p', cap', hv, hT⟩ := SM.out e1 u9 rfl
          have HT := Lib.hid hT; have HE1 := Lib.hid e1
          subst hv
          have hv0 : ii.v = 0 := by omega
          rw [hv0] at c19
          clear hT e1 hp0 hv0
          go_wp2_with fail
          go_ret
          exact ⟨by rw [HE1.out]; rfl, by rw [HE1.out]; exact HT.out⟩
end Go.Proofs.Ytkhbchgocilclaa
