/- The walk of BucketsBound: it returns true and makes new blocks alone. No condition but what each argument's kind bears. -/
import Derived.Test.YtmmligongchopaaTakeW
import Derived.Test.YtmmligongchopaaBoundP
import Derived.WalkSpells
namespace Go.Proofs.Ytmmligongchopaa
open Go.RowKit
set_option linter.unusedVariables false

theorem info32 : (Try.prog.info? 32).map (fun i => (i.zero, i.size, i.bytes)) = some (some (.int .u64 0), 1, 8) := by kernel_rfl

def nums (L : List Nat) : List Value := L.map fun n : Nat => Value.int .u64 (n : Int)

structure BoundInv (B pb rate burst T : Nat) (w wr : World) (s : Bk) (L : List Nat) (v : Value) : Prop where
  hb : wr.heap[pb]? = some s.obj
  ks : s.Ok
  r : s.r = rate
  m : s.m = burst * 1000
  a : s.a ≤ T
  inv : BInv L s
  own : wr.ownsRow (pb + 1) 32 1 v L.length (nums L)
  below : Below B w wr

theorem own_turned {w w' : World} {pb n : Nat} {o : Obj} {v : Value} {xs : List Value} (h : w.ownsRow (pb + 1) 32 1 v n xs) (t : Turned pb o w w') : w'.ownsRow (pb + 1) 32 1 v n xs :=
  h.kept (row := some pb) ⟨t.os, t.tape, t.output, by rw [t.size]; exact Nat.le_refl _, fun k _ hne => t.other (fun e => hne (by rw [e]))⟩ (by
    cases hv : v.ownBlock with
    | none => exact .inl rfl
    | some k => have := (h.lt k hv).1; exact .inr (fun e => by injection e with e; omega))

theorem BoundInv.yes {B pb rate burst T n : Nat} {w wr w1 w2 : World} {s : Bk} {L : List Nat} {v v2 : Value} (I : BoundInv B pb rate burst T w wr s L v) (hT : T ≤ n) (hn : n < 18446744073709551616)
    (t : Turned pb (s.take n).obj wr w1) (hok : s.ok n = true) (gB : B ≤ pb) {o : Obj}
    (hown : w2.ownsRow (pb + 1) 32 1 v2 (L.length + 1) (nums L ++ [.int .u64 (n : Int)])) (hg : (w1.alloc o).grownBy w2 v.ownBlock) :
    BoundInv B pb rate burst n w w2 (s.take n) (L ++ [n]) v2 := by
  have hlt := lt_of_blk I.hb
  have hz := t.size
  have hv : ∀ k, v.ownBlock = some k → pb + 1 ≤ k := fun k hk => (I.own.lt k hk).1
  have b1 : (w1.alloc o).heap[pb]? = some (s.take n).obj := by
    rw [Below.heap_alloc _ _ _ (by omega)]; exact t.get hlt
  refine ⟨?_, I.ks.take hn, by rw [Bk.take_r]; exact I.r, by rw [Bk.take_m]; exact I.m, by rw [take_at_eq (Nat.le_trans I.a hT)]; exact Nat.le_refl _, I.inv.yes (Nat.le_trans I.a hT) hok, ?_, ?_⟩
  · rw [← b1]
    exact hg.block pb (by simp; omega) (fun e => by have := hv pb e.symm; omega)
  · simpa [nums] using hown
  · exact ((I.below.trans (t.below gB)).alloc (by have := I.below.size; omega) o).grown hg (by have := I.below.size; simp; omega) (fun k hk => by have := hv k hk; omega)

theorem BoundInv.no {B pb rate burst T n : Nat} {w wr w1 : World} {s : Bk} {L : List Nat} {v : Value} (I : BoundInv B pb rate burst T w wr s L v) (hT : T ≤ n) (hn : n < 18446744073709551616)
    (t : Turned pb (s.take n).obj wr w1) (hok : s.ok n = false) (gB : B ≤ pb) : BoundInv B pb rate burst n w w1 (s.take n) L v :=
  ⟨t.get (lt_of_blk I.hb), I.ks.take hn, by rw [Bk.take_r]; exact I.r, by rw [Bk.take_m]; exact I.m, by rw [take_at_eq (Nat.le_trans I.a hT)]; exact Nat.le_refl _, I.inv.no (Nat.le_trans I.a hT) hok, own_turned I.own t, I.below.trans (t.below gB)⟩

theorem BoundInv.drewN {B pb rate burst T : Nat} {w wr : World} {s : Bk} {L : List Nat} {v : Value} (I : BoundInv B pb rate burst T w wr s L v) (n : Nat) : BoundInv B pb rate burst T w (wr.drewN n) s L v :=
  ⟨I.hb, I.ks, I.r, I.m, I.a, I.inv, I.own, ⟨I.below.os, I.below.tape, I.below.output, I.below.size, I.below.block⟩⟩

theorem own_reads {w : World} {base : Nat} {v : Value} {L : List Nat} (h : w.ownsRow base 32 1 v L.length (nums L)) :
    ∃ A c, v = .slice A L.length c ∧ RdS w w.heap.size A L.length (fun k => .int .u64 (L.getD k 0 : Nat)) := by
  rcases h.2 with ⟨rfl, h0⟩ | ⟨g, cap, cur, rfl, _, hh, _, _, _, _⟩
  · exact ⟨none, 0, by rw [h0], fun hn => absurd hn (by omega)⟩
  · refine ⟨_, _, rfl, fun _ => ⟨g, 0, rfl, ?_, fun k hk => ?_⟩⟩
    · exact lt_of_blk hh
    · rw [Nat.zero_add, h.cellAt k (by omega)]
      simp [nums, List.getElem?_eq_getElem hk]

theorem BoundInv.cells {B pb rate burst T : Nat} {w wr : World} {s : Bk} {L : List Nat} {A : Option Addr} {c : Nat} (I : BoundInv B pb rate burst T w wr s L (.slice A L.length c)) :
    RdS wr wr.heap.size A L.length (fun k => .int .u64 (L.getD k 0 : Nat)) := by
  obtain ⟨A', c', e, h⟩ := own_reads I.own
  injection e with e1 e2 e3
  rw [e1]
  exact h

theorem pair_int {L : List Nat} {s : Bk} {rate burst T j k : Nat} (h : BInv L s) (hr : s.r = rate) (hm : s.m = burst * 1000) (hT : s.a ≤ T) (hk : k ≤ j) (hj : j < L.length) (hrate : rate < 65536) :
    0 ≤ (L.getD j 0 : Int) - L.getD k 0 ∧ L.getD j 0 ≤ T ∧ 1000 * ((j : Int) - k + 1) ≤ 1000 * burst + rate * ((L.getD j 0 : Int) - L.getD k 0) ∧ 0 ≤ (rate : Int) * ((L.getD j 0 : Int) - L.getD k 0) ∧ (rate : Int) * ((L.getD j 0 : Int) - L.getD k 0) ≤ 65536 * T := by
  obtain ⟨p1, p2⟩ := h.pair j k hk hj
  have p3 := (h.pot j hj).2
  rw [hr, hm] at p1
  have e : ((rate * (L.getD j 0 - L.getD k 0) : Nat) : Int) = (rate : Int) * ((L.getD j 0 : Int) - L.getD k 0) := by rw [Int.natCast_mul, Int.natCast_sub p2]
  have hb : rate * (L.getD j 0 - L.getD k 0) ≤ 65536 * T := Nat.mul_le_mul (by omega) (by omega)
  rw [← e]
  refine ⟨by omega, by omega, ?_, by omega, by omega⟩
  omega

/-- behind the stretch: m taken at the time n -/
structure FullInv (B pb burst n m : Nat) (w wr : World) (s : Bk) : Prop where
  hb : wr.heap[pb]? = some s.obj
  ks : s.Ok
  r : 0 < s.r
  most : s.m = burst * 1000
  st : (m = 0 ∧ s.a + s.m + 1000 ≤ n) ∨ (s.a = n ∧ s.d + 1000 * m = s.m)
  below : Below B w wr

theorem FullInv.yes {B pb burst n m : Nat} {w wr w1 : World} {s : Bk} (I : FullInv B pb burst n m w wr s) (hm : m < burst) (gB : B ≤ pb) (hn : n < 18446744073709551616) :
    s.ok n = true ∧ (Turned pb (s.take n).obj wr w1 → FullInv B pb burst n (m + 1) w w1 (s.take n)) := by
  have hsm := I.most
  have key : s.ok n = true ∧ (s.take n).a = n ∧ (s.take n).d + 1000 * (m + 1) = s.m := by
    rcases I.st with ⟨h0, h1⟩ | ⟨h0, h1⟩
    · obtain ⟨e1, e2⟩ := full_take I.ks.d I.r h1
      rw [e1, e2 (by omega)]
      exact ⟨decide_eq_true (by omega), rfl, by simp only; omega⟩
    · obtain ⟨e1, e2⟩ := same_take h0
      rw [e1, e2 (by omega)]
      exact ⟨decide_eq_true (by omega), rfl, by simp only; omega⟩
  refine ⟨key.1, fun t => ⟨t.get (lt_of_blk I.hb), I.ks.take hn, by rw [Bk.take_r]; exact I.r, by rw [Bk.take_m]; exact I.most, .inr ⟨key.2.1, by rw [Bk.take_m]; exact key.2.2⟩, I.below.trans (t.below gB)⟩⟩

theorem FullInv.no {B pb burst n : Nat} {w wr : World} {s : Bk} (I : FullInv B pb burst n burst w wr s) : s.ok n = false := by
  have hsm := I.most
  rcases I.st with ⟨h0, h1⟩ | ⟨h0, h1⟩
  · rw [(full_take I.ks.d I.r h1).1]; exact decide_eq_false (by omega)
  · rw [(same_take h0).1]; exact decide_eq_false (by omega)

set_option maxRecDepth 100000 in
set_option maxHeartbeats 800000 in
theorem bound_walk (rate burst len cap : Nat) (A : Option Addr) (zs : Nat → Nat) (w : World) (h1 : rate < 65536) (h2 : burst < 65536)
    (hl : len ≤ 9223372036854775807) (hz : ∀ k, zs k < 65536) (hA : RdS w w.heap.size A len (fun k => .int .u16 (zs k))) :
    Calls Try.prog 5 #[.int .u16 rate, .int .u16 burst, .slice A len cap] w fun e w' => e = .returned (.bool true) ∧ Below w.heap.size w w' := by
  by_cases hbig : 200 < (len : Int)
  · go_enter Try.func5, Try.ntmps5
    go_wp2_with fail
    refine (lives_any _).mono ?_
    rintro e w3 ⟨rfl, b3⟩
    go_wp2_with fail
    go_ret
    exact ⟨rfl, b3⟩
  · obtain ⟨i0, hi0, hz0, hz1, hz2⟩ := info_parts info32
    go_enter Try.func5, Try.ntmps5
    go_wp2_with fail
    refine (new_made _ _ _ (by omega) (by omega)).mono ?_
    rintro e w1 ⟨pb, rfl, m1⟩
    have gb : w.heap.size ≤ pb := m1.new
    have I0 : BoundInv w.heap.size pb rate burst 0 w w1 (mkB rate burst) [] (.slice none 0 0) :=
      ⟨m1.get, mkB_ok (by omega) (by omega), rfl, rfl, Nat.le_refl _, BInv.nil (Nat.le_refl _), World.ownsRow_nil _ _ _ _, m1.below⟩
    clear m1
    go_wp2_with fail
    go_loopw [8, 9, 10] (fun now v i wr => ∃ (k T : Nat) (s : Bk) (L : List Nat), k ≤ len ∧ i = .int .i64 k ∧ now = .int .u64 T ∧ T ≤ 65535 * k ∧ L.length ≤ k ∧ BoundInv w.heap.size pb rate burst T w wr s L v) (fun _ _ i _ => len - (intOf i).toNat)
    case atStart => exact ⟨0, 0, _, _, by omega, rfl, rfl, by omega, by simp, I0⟩
    case round =>
      clear I0
      obtain ⟨k, T, s, L, hk, rfl, rfl, hT, hL, I⟩ := hrel
      by_cases hlt : k < len
      · obtain ⟨lb, off, rfl, hlb, hc⟩ := hA (by omega)
        have hck := (I.below.cell (p := ⟨lb, off + k, none⟩) hlb).trans (hc k hlt)
        have hzk := hz k
        clear hc
        go_wp2_with fail
        refine (take_any s pb _ _ I.hb I.ks (by omega) (by omega)).mono ?_
        rintro e w5 ⟨rfl, t5⟩
        have en : ((T : Int) + (zs k : Int)).toNat = T + zs k := by omega
        rw [en] at t5 ⊢
        clear hck en
        cases hok : s.ok (T + zs k)
        · have I5 := I.no (n := T + zs k) (by omega) (by omega) t5 hok gb
          clear hok t5 I
          go_wp2_with fail
          go_roundw
          case rel => exact ⟨k + 1, T + zs k, _, _, by omega, by go_num, by go_num, by omega, by omega, I5⟩
          case measure => simp [intOf]; omega
        · have own5 := own_turned I.own t5
          have HOK := Lib.hid hok; clear hok
          go_wp2_with (at_builtin; refine wpList_append_own _ rfl (.tmp 41) (.tmp 43) 25 rfl (pb + 1) 32 i0 (.int .u64 0) 1 8 Try.underlying25 hi0 hz0 hz1 hz2 rfl (by decide) _ _ _ rfl (own5.alloc _) ⟨w5.heap.size, 0, none⟩ 1 1 [.int .u64 ((T : Int) + (zs k : Int))] rfl rfl ?c1 ?c2 ?c3 ?c4 ?c5 ?_)
          case c1 => exact cell_one_new _ _ _
          case c2 => intro u hu; simp only [List.mem_singleton] at hu; subst hu; rfl
          case c3 => unfold maxLen; omega
          case c4 => omega
          case c5 => have := lt_of_blk I.hb; have := t5.size; simp; omega
          intro v2 w2 own2 hg2 _
          have I5 := I.yes (n := T + zs k) (by omega) (by omega) t5 HOK.out gb own2 hg2
          clear own2 hg2 own5 t5 I HOK
          go_wp2_with fail
          go_roundw
          case rel => exact ⟨k + 1, T + zs k, _, _, by omega, by go_num, by go_num, by omega, by simp; omega, I5⟩
          case measure => simp [intOf]; omega
      · go_wp2_with fail
        obtain ⟨A2, c2, rfl, _⟩ := own_reads I.own
        go_loopw [11] (fun i wr => ∃ j : Nat, j ≤ L.length ∧ i = .int .i64 j ∧ BoundInv w.heap.size pb rate burst T w wr s L (.slice A2 L.length c2)) (fun i _ => L.length - (intOf i).toNat)
        case atStart => exact ⟨0, by omega, rfl, I⟩
        case round =>
          clear I
          obtain ⟨wo, rfl⟩ : ∃ wo : World, wo = wr := ⟨_, rfl⟩
          obtain ⟨j, hj, rfl, I⟩ := hrel
          by_cases hlt2 : j < L.length
          · go_wp2_with fail
            go_loopw [12] (fun q wr => ∃ k : Nat, k ≤ j + 1 ∧ q = .int .i64 k ∧ BoundInv w.heap.size pb rate burst T w wr s L (.slice A2 L.length c2)) (fun q _ => j + 1 - (intOf q).toNat)
            case atStart => exact ⟨0, by omega, rfl, I⟩
            case round =>
              clear I
              obtain ⟨q, hq, rfl, I⟩ := hrel
              by_cases hlt3 : q ≤ j
              · obtain ⟨lb, off, rfl, hlb, hc⟩ := I.cells (by omega)
                have hc1 : wr.cell? ⟨lb, off + j, none⟩ = some (.int .u64 (L.getD j 0 : Nat)) := hc j (by omega)
                have hc2 : wr.cell? ⟨lb, off + q, none⟩ = some (.int .u64 (L.getD q 0 : Nat)) := hc q (by omega)
                obtain ⟨b1, b2, b3, b4, b5⟩ := pair_int I.inv I.r I.m I.a hlt3 hlt2 h1
                clear hc
                generalize L.getD j 0 = aj at *
                generalize L.getD q 0 = aq at *
                go_wp2_with fail
                go_quiet (fail)
                have I9 := I.drewN nq
                clear I hc1 hc2
                go_wp2_with fail
                go_roundw
                case rel => exact ⟨q + 1, by omega, by go_num, I9⟩
                case measure => simp [intOf]; omega
              · go_wp2_with fail
                go_roundw
                case rel => exact ⟨j + 1, by omega, by go_num, I⟩
                case measure => simp [intOf]; omega
          · have hr0 := I.inv.rate0
            by_cases hrate : rate = 0
            · subst hrate
              have hle : (L.length : Int) ≤ burst := by have := I.inv.rate0 I.r I.m; omega
              clear hr0
              go_wp2_with fail
              refine (lives_any _).mono ?_
              rintro e w9 ⟨rfl, b9⟩
              go_wp2_with fail
              go_ret
              exact ⟨rfl, I.below.trans (b9.mono I.below.size)⟩
            · have hrb : ((rate : Int) == 0) = false := by simpa using hrate
              clear hr0
              by_cases h3 : 300 < (burst : Int)
              · have F0 : FullInv w.heap.size pb burst (T + 1000 * burst + 1000) 0 w wo s := ⟨I.hb, I.ks, by rw [I.r]; omega, I.m, .inl ⟨rfl, by rw [I.m]; have := I.a; omega⟩, I.below⟩
                clear I
                go_wp2_with fail
                go_loopw [15] (fun i wr => ∃ (m : Nat) (s : Bk), m ≤ 300 ∧ i = .int .i64 m ∧ FullInv w.heap.size pb burst (T + 1000 * burst + 1000) m w wr s) (fun i _ => 300 - (intOf i).toNat)
                case atStart => exact ⟨0, _, by omega, rfl, F0⟩
                case round =>
                  clear F0
                  obtain ⟨m, s, hm, rfl, F⟩ := hrel
                  by_cases hlt4 : m < 300
                  · have f1 := fun w1 => (F.yes (w1 := w1) (show m < burst by omega) gb (by omega)).2
                    have f2 := (F.yes (w1 := wr) (show m < burst by omega) gb (by omega)).1
                    have F1 := Lib.hid f1; have F2 := Lib.hid f2; clear f1 f2
                    go_wp2_with fail
                    refine (take_any s pb _ _ F.hb F.ks (by omega) (by omega)).mono ?_
                    rintro e w5 ⟨rfl, t5⟩
                    have en : ((T : Int) + 1000 * (burst : Int) + 1000).toNat = T + 1000 * burst + 1000 := by omega
                    rw [en] at t5 ⊢
                    rw [F2.out]
                    have F5 := F1.out _ t5
                    clear F t5 en F1 F2
                    go_wp2_with fail
                    go_roundw
                    case rel => exact ⟨m + 1, _, by omega, by go_num, F5⟩
                    case measure => simp [intOf]; omega
                  · obtain rfl : m = 300 := by omega
                    go_wp2_with fail
                    refine (lives_any _).mono ?_
                    rintro e w9 ⟨rfl, b9⟩
                    go_wp2_with fail
                    go_ret
                    exact ⟨rfl, F.below.trans (b9.mono F.below.size)⟩
              · have F0 : FullInv w.heap.size pb burst (T + 1000 * burst + 1000) 0 w wo s := ⟨I.hb, I.ks, by rw [I.r]; omega, I.m, .inl ⟨rfl, by rw [I.m]; have := I.a; omega⟩, I.below⟩
                clear I
                go_wp2_with fail
                go_loopw [15] (fun i wr => ∃ (m : Nat) (s : Bk), m ≤ burst ∧ i = .int .i64 m ∧ FullInv w.heap.size pb burst (T + 1000 * burst + 1000) m w wr s) (fun i _ => burst - (intOf i).toNat)
                case atStart => exact ⟨0, _, by omega, rfl, F0⟩
                case round =>
                  clear F0
                  obtain ⟨m, s, hm, rfl, F⟩ := hrel
                  by_cases hlt4 : m < burst
                  · have f1 := fun w1 => (F.yes (w1 := w1) (show m < burst by omega) gb (by omega)).2
                    have f2 := (F.yes (w1 := wr) (show m < burst by omega) gb (by omega)).1
                    have F1 := Lib.hid f1; have F2 := Lib.hid f2; clear f1 f2
                    go_wp2_with fail
                    refine (take_any s pb _ _ F.hb F.ks (by omega) (by omega)).mono ?_
                    rintro e w5 ⟨rfl, t5⟩
                    have en : ((T : Int) + 1000 * (burst : Int) + 1000).toNat = T + 1000 * burst + 1000 := by omega
                    rw [en] at t5 ⊢
                    rw [F2.out]
                    have F5 := F1.out _ t5
                    clear F t5 en F1 F2
                    go_wp2_with fail
                    go_roundw
                    case rel => exact ⟨m + 1, _, by omega, by go_num, F5⟩
                    case measure => simp [intOf]; omega
                  · obtain rfl : m = burst := by omega
                    have f2 := F.no
                    have F2 := Lib.hid f2; clear f2
                    go_wp2_with fail
                    refine (take_any s pb _ _ F.hb F.ks (by omega) (by omega)).mono ?_
                    rintro e w5 ⟨rfl, t5⟩
                    have en : ((T : Int) + 1000 * (m : Int) + 1000).toNat = T + 1000 * m + 1000 := by omega
                    rw [en, F2.out]
                    have B5 := F.below.trans (t5.below gb)
                    clear F t5 en F2
                    go_wp2_with fail
                    refine (lives_any _).mono ?_
                    rintro e w9 ⟨rfl, b9⟩
                    go_wp2_with fail
                    go_ret
                    exact ⟨rfl, B5.trans (b9.mono B5.size)⟩
end Go.Proofs.Ytmmligongchopaa
