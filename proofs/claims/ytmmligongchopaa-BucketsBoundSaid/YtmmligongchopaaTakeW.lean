/- The walk of BucketsTake: it returns true and makes new blocks alone. No condition but what each argument's kind bears. -/
import Derived.Test.YtmmligongchopaaRef
import Derived.Test.YtmmligongchopaaReads
import Derived.Deep.RegionWith
namespace Go.Proofs.Ytmmligongchopaa
open Go.RowKit
set_option linter.unusedVariables false

theorem Pushed.made {o : Obj} {w w' : World} (h : Pushed o w w') : Made w.heap.size o w w' := ⟨Nat.le_refl _, h.get, h.below⟩

theorem new_made (rate burst : Nat) (w : World) (h1 : rate < 4294967296) (h2 : burst < 4294967296) :
    Calls Try.prog 9 #[.int .u32 rate, .int .u32 burst] w fun e w' => ∃ b, e = .returned (.pointer (some ⟨b, 0, none⟩)) ∧ Made b (mkB rate burst).obj w w' :=
  (new_any rate burst w h1 h2).mono fun _ _ ⟨he, hp⟩ => ⟨_, he, hp.made⟩
theorem reftake_bk (s : Bk) (u b : Nat) (now : Int) (w : World) (h : w.heap[b]? = some (rb s.r u s.d s.a)) (hu : s.m = u * 1000) (ok : s.Ok) (h0 : 0 ≤ now) (h1 : now < 18446744073709551616) :
    Calls Try.prog 12 #[.pointer (some ⟨b, 0, none⟩), .int .u64 now] w fun e w' => e = .returned (.bool (s.ok now.toNat)) ∧ Turned b (rb s.r u (s.take now.toNat).d (s.take now.toNat).a) w w' := by
  obtain ⟨r, d, m, a⟩ := s
  simp only at hu
  subst hu
  exact reftake_any r u d a b now w h ok.d ok.m ok.r h0 h1
theorem Turned.of_drew {b : Nat} {o : Obj} {w w' : World} (h : Turned b o w.drew w') : Turned b o w w' := ⟨h.heap, h.os, h.tape, h.output⟩
theorem refnew_made (rate burst : Nat) (w : World) (h1 : rate < 4294967296) (h2 : burst < 4294967296) :
    Calls Try.prog 10 #[.int .u32 rate, .int .u32 burst] w fun e w' => ∃ b, e = .returned (.pointer (some ⟨b, 0, none⟩)) ∧ Made b (rb rate burst (burst * 1000) 0) w w' :=
  (refnew_any rate burst w h1 h2).mono fun _ _ ⟨he, hp⟩ => ⟨_, he, hp.made⟩
structure TakeInv (B pb po pm u : Nat) (w wr : World) (s so : Bk) : Prop where
  hb : wr.heap[pb]? = some s.obj
  kb : s.Ok
  ho : wr.heap[po]? = some so.obj
  ko : so.Ok
  hm : wr.heap[pm]? = some (rb s.r u s.d s.a)
  mu : s.m = u * 1000
  below : Below B w wr

theorem TakeInv.other {B pb po pm u now : Nat} {w wr w' : World} {s so : Bk} (I : TakeInv B pb po pm u w wr s so) (t : Turned po (so.take now).obj wr w') (hn : now < 18446744073709551616)
    (n1 : po ≠ pb) (n2 : pm ≠ po) (gB : B ≤ po) : TakeInv B pb po pm u w w' s (so.take now) :=
  ⟨t.keep I.hb n1.symm, I.kb, t.get (lt_of_blk I.ho), I.ko.take hn, t.keep I.hm n2, I.mu, I.below.trans (t.below gB)⟩

theorem TakeInv.both {B pb po pm u now : Nat} {w wr w1 w2 : World} {s so : Bk} (I : TakeInv B pb po pm u w wr s so) (t : Turned pb (s.take now).obj wr w1)
    (t2 : Turned pm (rb s.r u (s.take now).d (s.take now).a) w1 w2) (hn : now < 18446744073709551616)
    (n1 : po ≠ pb) (n2 : pm ≠ po) (n3 : pm ≠ pb) (gB : B ≤ pb) (gm : B ≤ pm) : TakeInv B pb po pm u w w2 (s.take now) so :=
  ⟨t2.keep (t.get (lt_of_blk I.hb)) n3.symm, I.kb.take hn, t2.keep (t.keep I.ho n1) n2.symm, I.ko, by
    have := t2.get (lt_of_blk (t.keep I.hm n3)); rw [Bk.take_r]; exact this, by rw [Bk.take_m]; exact I.mu, (I.below.trans (t.below gB)).trans (t2.below gm)⟩

set_option maxRecDepth 100000 in
set_option maxHeartbeats 800000 in
theorem take_walk (rate burst len cap : Nat) (A : Option Addr) (zs : Nat → Nat) (w : World) (h1 : rate < 4294967296) (h2 : burst < 4294967296)
    (hl : len ≤ 9223372036854775807) (hz : ∀ k, zs k < 18446744073709551616) (hA : RdS w w.heap.size A len (fun k => .int .u64 (zs k))) :
    Calls Try.prog 3 #[.agg #[.int .u32 rate, .int .u32 burst], .slice A len cap] w fun e w' => e = .returned (.bool true) ∧ Below w.heap.size w w' := by
  by_cases hbig : 500 < (len : Int)
  · go_enter Try.func3, Try.ntmps3
    go_wp2_with fail
    refine (lives_any _).mono ?_
    rintro e w3 ⟨rfl, b3⟩
    go_wp2_with fail
    go_ret
    exact ⟨rfl, ((Below.refl _ _).alloc (Nat.le_refl _) _).trans (b3.mono (by simp))⟩
  · go_enter Try.func3, Try.ntmps3
    go_wp2_with fail
    have hx : (w.alloc (.cells #[.int .u32 rate, .int .u32 burst] 24)).heap[w.heap.size]? = some (.cells #[.int .u32 rate, .int .u32 burst] 24 (0, 0)) := heap_alloc_new _ _
    have B0 : Below w.heap.size w (w.alloc (.cells #[.int .u32 rate, .int .u32 burst] 24)) := (Below.refl _ _).alloc (Nat.le_refl _) _
    generalize w.alloc (.cells #[.int .u32 rate, .int .u32 burst] 24) = w0 at *
    refine (new_made _ _ _ (by omega) (by omega)).mono ?_
    rintro e w1 ⟨pb, rfl, m1⟩
    have x1 := m1.other hx
    have xa := cell_blk x1 0
    have xb := cell_blk x1 1
    simp at xa xb
    have B1 := B0.trans (m1.below.mono B0.size)
    go_wp2_with fail
    refine (new_made _ _ _ (by omega) (by omega)).mono ?_
    rintro e w2 ⟨po, rfl, m2⟩
    have x2 := m2.other x1
    clear xa xb
    have xa := cell_blk x2 0
    have xb := cell_blk x2 1
    simp at xa xb
    have B2 := B1.trans (m2.below.mono B1.size)
    go_wp2_with fail
    refine (refnew_made _ _ _ (by omega) (by omega)).mono ?_
    rintro e w3 ⟨pm, rfl, m3⟩
    have hb3 := m3.other (m2.other m1.get)
    have ho3 := m3.other m2.get
    have ne1 : po ≠ pb := fun e => m2.ne m1.get e.symm
    have ne2 : pm ≠ pb := fun e => m3.ne (m2.other m1.get) e.symm
    have ne3 : pm ≠ po := fun e => m3.ne m2.get e.symm
    have gb : w.heap.size ≤ pb := Nat.le_trans B0.size m1.new
    have go_ : w.heap.size ≤ po := Nat.le_trans B1.size m2.new
    have gm : w.heap.size ≤ pm := Nat.le_trans B2.size m3.new
    have I0 : TakeInv w.heap.size pb po pm burst w w3 (mkB rate burst) (mkB burst rate) :=
      ⟨hb3, mkB_ok h1 h2, ho3, mkB_ok h2 h1, m3.get, rfl, B2.trans (m3.below.mono B2.size)⟩
    clear x1 xa xb x2 B0 B1 B2 m1 m2 m3 hb3 ho3 hx
    go_wp2_with fail
    go_loopw [8] (fun i wr => ∃ (k : Nat) (s so : Bk), k ≤ len ∧ i = .int .i64 k ∧ TakeInv w.heap.size pb po pm burst w wr s so) (fun i _ => len - (intOf i).toNat)
    case atStart => exact ⟨0, _, _, by omega, rfl, I0⟩
    case round =>
      clear I0
      obtain ⟨k, s, so, hk, rfl, I⟩ := hrel
      by_cases hlt : k < len
      · obtain ⟨lb, off, rfl, hlb, hc⟩ := hA (by omega)
        have hck := (I.below.cell (p := ⟨lb, off + k, none⟩) hlb).trans (hc k hlt)
        have hzk := hz k
        clear hc
        go_wp2_with fail
        refine (take_any so po _ _ I.ho I.ko (by omega) (by omega)).mono ?_
        rintro e w5 ⟨rfl, t5⟩
        rw [Int.toNat_natCast] at t5 ⊢
        have I5 := I.other t5 hzk ne1 ne3 go_
        have hc5 : w5.cell? ⟨lb, off + k, none⟩ = some (.int .u64 (zs k)) := ((t5.below go_).cell hlb).trans hck
        clear hck t5
        go_wp2_with fail
        go_region_with (first | (go_at_call 11; refine (take_any s pb _ _ ?hb I5.kb (by omega) (by omega)).mono ?_; (case hb => exact I5.hb); rintro e w6 ⟨rfl, t6⟩; have hc6 : w6.cell? ⟨lb, off + k, none⟩ = some (.int .u64 (zs k)) := ((t6.below gb).cell hlb).trans hc5; have hm6 : w6.heap[pm]? = some (rb s.r burst s.d s.a) := t6.keep I5.hm ne2) | (go_at_call 12; refine (reftake_bk s burst pm _ _ ?hb I5.mu I5.kb (by omega) (by omega)).mono ?_; (case hb => exact hm6); rintro e w7 ⟨rfl, t7⟩))
        all_goals
          rw [Int.toNat_natCast] at t6 t7
          have I7 := I5.both t6.of_drew t7 hzk ne1 ne3 ne2 gb gm
          clear I5 I t6 t7 hc5 hc6 hm6
          go_wp2_with fail
          go_roundw
          case rel => exact ⟨k + 1, _, _, by omega, by go_num, I7⟩
          case measure => simp [intOf]; omega
      · go_wp2_with fail
        refine (lives_any _).mono ?_
        rintro e w9 ⟨rfl, b9⟩
        go_wp2_with fail
        go_ret
        exact ⟨rfl, I.below.trans (b9.mono I.below.size)⟩
end Go.Proofs.Ytmmligongchopaa
