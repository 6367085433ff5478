/- The walk of Tick: who is over goes. No condition but that the numbers fit. -/
import Derived.Test.YtkhbchgocilclaaHas
namespace Go.Proofs.Ytkhbchgocilclaa
open Go.RowKit
set_option linter.unusedVariables false

def timeOf : DataW Unit → Nat
  | .lit (.int _ t) => t.toNat
  | _ => 0
/-- who is left at a time -/
def tickD (now : Nat) : PD → PD
  | .map es => .map (es.filter fun p => decide (now < timeOf p.2))
  | D => D

theorem tidy_at {es : List (Lit × DataW Unit)} (hp : es.Pairwise (fun p q => p.1 ≠ q.1)) {kl : Lit} {d : DataW Unit} (hm : (kl, d) ∈ es) (hk : WideAt.IsKeyLit kl) : (DataW.map es).atKey kl .nil = d :=
  WideAt.atKey_mem .nil hk hp hm

theorem has_mem {es : List (Lit × DataW Unit)} {kl : Lit} (h : Maps.has (.map es) kl = true) : ∃ d, (kl, d) ∈ es := by
  rw [Maps.has_eq] at h
  obtain ⟨p, hp, hs⟩ := List.any_eq_true.1 h
  exact ⟨p.2, by rw [← WideAt.sameKey_eq hs]; exact hp⟩

theorem tick_has {es : List (Lit × DataW Unit)} (hc : Maps.Canon (.map es)) (now : Nat) (kl : Lit) :
    Maps.has (tickD now (.map es)) kl = (Maps.has (.map es) kl && decide (now < timeOf ((DataW.map es).atKey kl .nil))) := by
  obtain ⟨es', e, hr, hk⟩ := hc
  injection e with e
  subst e
  have hp := Maps.apart_of_rising hr
  rw [Bool.eq_iff_iff]
  constructor
  · intro h
    obtain ⟨d, hd⟩ := has_mem h
    obtain ⟨h1, h2⟩ := List.mem_filter.1 hd
    rw [Bool.and_eq_true]
    refine ⟨?_, by rw [tidy_at hp h1 (hk _ h1)]; exact h2⟩
    rw [Maps.has_eq]
    exact List.any_eq_true.2 ⟨_, h1, WideAt.sameKey_self (hk _ h1)⟩
  · intro h
    rw [Bool.and_eq_true] at h
    obtain ⟨d, hd⟩ := has_mem h.1
    rw [tidy_at hp hd (hk _ hd)] at h
    show Maps.has (.map _) kl = true
    rw [Maps.has_eq]
    exact List.any_eq_true.2 ⟨(kl, d), List.mem_filter.2 ⟨hd, h.2⟩, WideAt.sameKey_self (hk _ hd)⟩
theorem tick_canon {D : PD} (hc : Maps.Canon D) (now : Nat) : Maps.Canon (tickD now D) := by
  obtain ⟨es, rfl, hr, hk⟩ := hc
  exact ⟨_, rfl, hr.filter _, fun p hp => hk p (List.mem_filter.1 hp).1⟩
theorem tick_at {es : List (Lit × DataW Unit)} (hc : Maps.Canon (.map es)) (now : Nat) (kl : Lit) (z : DataW Unit) (h : Maps.has (tickD now (.map es)) kl = true) :
    (tickD now (.map es)).atKey kl z = (DataW.map es).atKey kl z := by
  have hc' := tick_canon hc now
  obtain ⟨d, hd⟩ := has_mem h
  obtain ⟨h1, h2⟩ := List.mem_filter.1 hd
  obtain ⟨es1, e1, hr1, hk1⟩ := hc
  injection e1 with e1
  subst e1
  obtain ⟨es2, e2, hr2, hk2⟩ := hc'
  injection e2 with e2
  rw [show (tickD now (DataW.map es)).atKey kl z = d from by
    show (DataW.map _).atKey kl z = d
    rw [e2]; rw [e2] at hd
    exact WideAt.atKey_mem z (hk2 _ hd) (Maps.apart_of_rising hr2) hd, WideAt.atKey_mem z (hk1 _ h1) (Maps.apart_of_rising hr1) h1]

/-- on the way: those that are over and have come are gone -/
structure TickInv (b mb r now : Nat) (D0 D : PD) (left : Lit → Bool) (cnt n0 : Nat) (w wr : World) : Prop where
  rg : wr.ranges Try.prog 25 (plainElem Try.prog 34) mb r (Maps.size D0) D left cnt
  has : ∀ kl, Maps.has D kl = (Maps.has D0 kl && (left kl || decide (now < timeOf (D0.atKey kl .nil))))
  at_ : ∀ kl z, Maps.has D kl = true → D.atKey kl z = D0.atKey kl z
  le : ∀ kl, left kl = true → Maps.has D0 kl = true
  cnt : n0 + Maps.size D = Maps.size D0
  tidy : Maps.Tidy D
  hb : wr.heap[b]? = some (.cells #[.map (some mb)] 58 (0, 0))
  grown : w.grownBy wr (some mb)
  rlt : w.heap.size ≤ r
  bm : b ≠ mb
  br : b ≠ r

theorem TickInv.fin {b mb r now : Nat} {D0 D : PD} {left : Lit → Bool} {cnt n0 : Nat} {w wr : World} (I : TickInv b mb r now D0 D left cnt n0 w wr) (hl : ∀ kl, left kl = false) (hc0 : Maps.Canon D0) (hc : Maps.Canon D) : D = tickD now D0 := by
  obtain ⟨es, rfl, hr, hk⟩ := hc0
  have hc0 : Maps.Canon (.map es : PD) := ⟨es, rfl, hr, hk⟩
  refine Maps.ext hc (tick_canon hc0 now) (fun k => ?_) (fun k z h => ?_)
  · rw [I.has, tick_has hc0, hl, Bool.false_or]
  · rw [I.at_ k z h, tick_at hc0]
    rw [tick_has hc0, ← Bool.false_or (decide _), ← hl k, ← I.has]
    exact h

set_option maxRecDepth 100000 in
set_option maxHeartbeats 2000000 in
theorem tick_any (b mb now : Nat) (D0 : PD) (w : World) (hnow : now < 18446744073709551616) (h : w.heap[b]? = some (.cells #[.map (some mb)] 58 (0, 0))) (hm : MapIs w mb D0) (hD : LOk D0) :
    Calls Try.prog 14 #[.pointer (some ⟨b, 0, none⟩), .int .u64 now] w fun e w' => e = .returned (.int .i64 ((Maps.size D0 - Maps.size (tickD now D0) : Nat) : Int)) ∧ Learnt b mb (tickD now D0) w w' := by
  have hc0 := hm.canon keyed
  have hbm : b ≠ mb := by
    intro e
    obtain ⟨es, clock, hh, _⟩ := hm
    rw [e, hh] at h; injection h with x; cases x
  have hblt := lt_of_blk h
  go_enter Try.func14, Try.ntmps14
  go_wp2_with fail
  refine (there_any b mb _ h).mono ?_
  rintro e w3 ⟨rfl, rfl⟩
  have cb : w.cell? ⟨b, 0, none⟩ = some (.map (some mb)) := cell_blk h 0
  go_wp2_with (at_range; refine wpList_range_own _ rfl _ 56 rfl 25 34 keyed Try.underlying56 _ mb _ _ rfl hm ?_; intro w4 rg4 gr4 sz4)
  have I0 : TickInv b mb w.heap.size now D0 D0 (Maps.has D0) (Maps.size D0) 0 w w4 :=
    ⟨rg4, fun kl => (by cases Maps.has D0 kl <;> simp), fun _ _ _ => rfl, fun _ h => h, Nat.zero_add _, hD.tidy, (gr4.block _ hblt (by simp)).trans h, ⟨gr4.os, gr4.tape, gr4.output, gr4.size, fun k hk _ => gr4.block k hk (by simp)⟩, Nat.le_refl _, hbm, fun e => by omega⟩
  clear rg4 gr4 sz4 cb
  obtain ⟨r, hr⟩ : ∃ r, r = w.heap.size := ⟨_, rfl⟩
  rw [← hr] at I0 ⊢
  clear hr
  go_frame
  go_loopw [4] (fun n wr => ∃ (D : PD) (left : Lit → Bool) (cnt n0 : Nat), n = .int .i64 n0 ∧ TickInv b mb r now D0 D left cnt n0 w wr) (fun _ wr => wr.rangeLeft mb r)
  case atStart => exact ⟨_, _, _, _, rfl, I0⟩
  case round =>
    clear I0
    obtain ⟨D, left, cnt, n0, rfl, I⟩ := hrel
    have hn0 : n0 ≤ 8 := by have e1 := I.cnt; have e2 := hD.size; omega
    go_wp2_with (at_next; refine wpList_next_ranges _ rfl _ rfl 25 keyed (plainElem Try.prog 34) (fun v : Value => v) (Value.int .u64) (fun key _ _ => ⟨key, rfl⟩) (fun v y hv => by obtain ⟨c, rfl, _⟩ := plainElem_int_inv Try.underlying34 hv; exact ⟨c, rfl⟩) mb r _ D left cnt rfl I.rg ?_ ?_)
    · intro _ hl0
      have hfin := I.fin hl0 hc0 (I.rg.owns.canon keyed)
      have hcnt := I.cnt
      have HF := Lib.hid hfin; have HC := Lib.hid hcnt; clear hfin hcnt
      go_wp2_with fail
      go_ret
      refine ⟨?_, I.hb, ?_, I.grown⟩
      · have e1 := HC.out
        rw [← HF.out, show Maps.size D0 - Maps.size D = n0 from by omega]; rfl
      · rw [← HF.out]; exact MapIs.of I.rg.owns
    · intro x c kl y yp w5 cnt5 hkey hlk hv hat rg5 hlt5 gr5 sz5 hen
      obtain ⟨p, n, hp, hn, rfl, hms⟩ := hD.keys kl (I.le kl hlk)
      have hx : x = .agg (preCells p n) := keyed.inj hkey (keyOf_pre p n hp (by omega))
      subst hx
      obtain ⟨c', hc', hyd, hwf⟩ := plainElem_int_inv Try.underlying34 hv
      injection hc' with _ hc'
      subst hc'
      obtain ⟨hc0', hc1⟩ := bounds_u64 hwf
      obtain ⟨tm, rfl⟩ := Int.eq_ofNat_of_zero_le hc0'
      have y1 : (y, yp) = (DataW.lit (Lit.int .u64 (tm : Int)), []) := hyd
      have hy : y = DataW.lit (Lit.int .u64 (tm : Int)) := congrArg Prod.fst y1
      have htm : timeOf (D0.atKey (keyLit p n) .nil) = tm := by
        have h1 := hat .nil
        have hh : Maps.has D (keyLit p n) = true := Maps.has_true_of_atKey hat
        rw [← I.at_ _ _ hh, h1]
        show timeOf y = tm
        rw [hy]; rfl
      have hhD : Maps.has D (keyLit p n) = true := Maps.has_true_of_atKey hat
      clear hyd y1 hy hat hwf hv hc0'
      have hne : ∀ (k : Nat) (o : Obj), wr.heap[k]? = some o → k ≠ r → w5.heap[k]? = some o := fun k o hk hn => (gr5.block k (lt_of_blk hk) (fun e => hn (by injection e))).trans hk
      have hb5 := hne b _ I.hb I.br
      have G5 : w.grownBy w5 (some mb) := I.grown.andThen gr5 (fun j hj => by injection hj with e; exact .inl (by rw [← e]; exact I.rlt))
      have t6 := Turned.setRow (heap_alloc_new w5 (.cells (preCells (fun _ => 0) 0) 25)) (preL p n).toArray
      have hnew := heap_alloc_new w5 (.cells (preCells (fun _ => 0) 0) 25)
      rw [← zeroPre] at t6 hnew
      have B6 : Below w5.heap.size w5 ((w5.alloc (.cells #[.int .u8 0, .int .u8 0, .int .u8 0, .int .u8 0, .int .u8 0, .int .u8 0, .int .u8 0, .int .u8 0, .int .u8 0, .int .u8 0, .int .u8 0, .int .u8 0, .int .u8 0, .int .u8 0, .int .u8 0, .int .u8 0, .int .u8 0] 25)).setRow w5.heap.size (preL p n).toArray) := ((Below.refl _ _).alloc (Nat.le_refl _) _).trans (t6.below (Nat.le_refl _))
      have hn6 := t6.get (by simp)
      have hb6 := (B6.block _ (lt_of_blk hb5)).trans hb5
      have rg6 := rg5.kept (w' := ((w5.alloc (.cells #[.int .u8 0, .int .u8 0, .int .u8 0, .int .u8 0, .int .u8 0, .int .u8 0, .int .u8 0, .int .u8 0, .int .u8 0, .int .u8 0, .int .u8 0, .int .u8 0, .int .u8 0, .int .u8 0, .int .u8 0, .int .u8 0, .int .u8 0] 25)).setRow w5.heap.size (preL p n).toArray)) (row := none) ⟨B6.os, B6.tape, B6.output, B6.size, fun k hk _ => B6.block k hk⟩ (by simp) (by simp)
      have G6 : w.grownBy ((w5.alloc (.cells #[.int .u8 0, .int .u8 0, .int .u8 0, .int .u8 0, .int .u8 0, .int .u8 0, .int .u8 0, .int .u8 0, .int .u8 0, .int .u8 0, .int .u8 0, .int .u8 0, .int .u8 0, .int .u8 0, .int .u8 0, .int .u8 0, .int .u8 0] 25)).setRow w5.heap.size (preL p n).toArray) (some mb) := G5.andThen (row' := none) ⟨B6.os, B6.tape, B6.output, B6.size, fun k hk _ => B6.block k hk⟩ (fun j hj => by cases hj)
      have hsz : 17 = (preL p n).toArray.size := by simp [preL_length]
      have HS := Lib.hid hsz; have HN := Lib.hid hnew; have HN6 := Lib.hid hn6; have HB6 := Lib.hid hb6; have HR6 := Lib.hid rg6; have HG6 := Lib.hid G6
      have hc1' : (tm : Int) ≤ 18446744073709551615 := hc1
      clear hsz hnew hn6 hb6 rg6 G6 B6 t6 G5 hb5 hne gr5 sz5 rg5 hc1
      by_cases hover : tm ≤ now
      · have tt : decide ((tm : Int) ≤ now) = true := by simp; omega
        go_wp2_with (refine wpList_store_row rfl 25 _ _ rfl w5.heap.size (preL p n).toArray rfl rfl 25 _ HN.out (by rw [← HS.out]; kernel_rfl) HS.out (all_oneCell_toArray (preL_one _ _)) ?_)
        have hn6 := HN6.out; have hb6 := HB6.out; have rg6 := HR6.out; have G6 := HG6.out
        clear HN6 HB6 HR6 HG6 HN HS hen
        generalize ((w5.alloc (.cells #[.int .u8 0, .int .u8 0, .int .u8 0, .int .u8 0, .int .u8 0, .int .u8 0, .int .u8 0, .int .u8 0, .int .u8 0, .int .u8 0, .int .u8 0, .int .u8 0, .int .u8 0, .int .u8 0, .int .u8 0, .int .u8 0, .int .u8 0] 25)).setRow w5.heap.size (preL p n).toArray) = w6 at *
        have u25 := Try.underlying25
        have l25 := info25 p n
        have hkb : ∀ (k : Nat) (c : Array Value) (z : TypeId) (w7 : World), w6.heap[k]? = some (Obj.cells c z (0, 0)) → w6.drew.mapTurned w7 mb → w7.heap[k]? = some (Obj.cells c z (0, 0)) := by
          intro k c z w7 hk t
          obtain ⟨es, clock, _, _, _, hm6, _⟩ := rg6
          refine (t.grown.block k (show k < w6.drew.heap.size from lt_of_blk hk) (fun e => ?_)).trans hk
          have e' : k = mb := by injection e
          rw [e', hm6] at hk; injection hk with x; cases x
        have hsee : w6.cell? ⟨b, 0, none⟩ = some (.map (some mb)) ∧ w6.rangeAt w5.heap.size 0 (preL p n) := ⟨cell_blk hb6 0, range_preL hn6⟩
        refine wp_region_held_drew (S := fun W => W.cell? ⟨b, 0, none⟩ = some (.map (some mb)) ∧ W.rangeAt w5.heap.size 0 (preL p n)) (by kernel_rfl) hsee ?_
        intro hH
        refine wpAnyH_take (i := 0) (v := .pointer (some ⟨b, 0, none⟩)) rfl (by kernel_rfl) (by kernel_rfl) (by kernel_rfl) (fun _ _ _ h => h) (Or.inl ⟨by rfl, fun W hW => by go_simp⟩) hH ?_
        refine wpAnyH_take (i := 1) (v := .pointer (some ⟨b, 0, none⟩)) rfl (by kernel_rfl) (by kernel_rfl) (by kernel_rfl) (fun _ _ _ h => h) (Or.inl ⟨by rfl, fun W hW => by go_simp⟩) hH ?_
        refine wpAnyH_take (i := 2) (v := .pointer (some ⟨b, 0, none⟩)) rfl (by kernel_rfl) (by kernel_rfl) (by kernel_rfl) (fun _ _ _ h => h) (Or.inl ⟨by rfl, fun W hW => by go_simp⟩) hH ?_
        refine wpAnyH_take (i := 3) (v := .map (some mb)) rfl (by kernel_rfl) (by kernel_rfl) (by kernel_rfl) (fun _ _ _ h => h) (Or.inl ⟨by rfl, fun W hW => by have c0 : W.cell? ⟨b, 0, none⟩ = some (.map (some mb)) := hW.1; clear hW; go_simp⟩) hH ?_
        refine wpAnyH_take (i := 4) (v := .agg (preL p n).toArray) rfl (by kernel_rfl) (by kernel_rfl) (by kernel_rfl) (fun _ _ _ h => h) (yieldsIf_load_mid (by rfl) 25 _ rfl w5.heap.size 0 rfl (preL p n) _ (fun W hW => hW.2) u25 rfl (l25)) hH ?_
        refine wpAnyH_ready (rs := [5]) (by kernel_rfl) (by simp) ?_
        refine AllReadyH.cons rfl (fun K hK => ?_) AllReadyH.nil
        obtain ⟨w7, cnt7, hrun, rg7, hle7, turn7⟩ := (show w6.drew.ranges Try.prog 25 (plainElem Try.prog 34) mb r (Maps.size D0) D (fun z => left z && !z.sameKey (keyLit p n)) cnt5 from rg6).drop keyed Try.underlying56 (keyOf_pre p n hp (by omega)) 0
        have hrun' : (Builtin.delete_ #[56, 25] 0 #[.map (some mb), .agg (preL p n).toArray]).run Try.prog w6.drew = .ok (.tuple #[]) w7 := hrun
        have turn7' : w6.drew.mapTurned w7 mb := turn7
        have G6d : w.grownBy w6.drew (some mb) := ⟨G6.os, G6.tape, G6.output, G6.size, G6.block⟩
        have hb7 := hkb _ _ _ w7 hb6 turn7'
        have hn7 := hkb _ _ _ w7 hn6 turn7'
        have G7 := G6d.andThen (row' := some mb) turn7'.grown (fun j hj => .inr hj)
        have hs7 : w7.cell? ⟨b, 0, none⟩ = some (.map (some mb)) ∧ w7.rangeAt w5.heap.size 0 (preL p n) := ⟨cell_blk hb7 0, range_preL hn7⟩
        have T7 := Lib.hid hb7; have T8 := Lib.hid rg7; have T9 := Lib.hid G7; have T10 := Lib.hid hle7; have T11 := Lib.hid hs7
        clear hrun hb7 hn7  rg7 G7 hle7 hs7 G6d
        go_simp
        refine hK.out _ _ T11.out (fun hH3 => ?_)
        clear hK hH hrun'
        refine wpAnyH_done (by kernel_rfl) ?_ _
        clear hH3 u25 l25 hsee
        have hsd := Maps.size_del (k := keyLit p n) I.tidy
        rw [hhD] at hsd
        simp only [if_true] at hsd
        have I7 : TickInv b mb r now D0 (D.del (keyLit p n)) (fun z => left z && !z.sameKey (keyLit p n)) cnt7 (n0 + 1) w w7 := by
          refine ⟨by rw [← Maps.strike_twice]; exact T8.out, fun kl => ?_, fun kl z hk => ?_, fun kl hl => I.le kl (by simp at hl; exact hl.1), by have := I.cnt; omega, I.tidy.del _, T7.out, T9.out, I.rlt, I.bm, I.br⟩
          · by_cases e : kl = keyLit p n
            · rw [e, Maps.has_del_same, htm, decide_eq_false (show ¬ now < tm by omega), WideAt.sameKey_self (key_isKey _ _)]; simp
            · rw [Maps.has_del_other e, I.has, Maps.sameKey_ne e]; simp
          · by_cases e : kl = keyLit p n
            · rw [e, Maps.has_del_same] at hk; cases hk
            · rw [Maps.has_del_other e] at hk
              rw [Maps.atKey_del_other e]
              exact I.at_ kl z hk
        have HLE := Lib.hid I7.rg.left_eq; have HLC := Lib.hid I.rg.left_eq
        have hlt7 : cnt7 < cnt := Nat.lt_of_le_of_lt T10.out hlt5
        clear hsd rg6 hb6 G6 T7 T8 T9 T10 T11 turn7' turn7 hkb
        go_wp2_with fail
        go_roundw
        case rel => exact ⟨_, _, _, _, by go_num, I7⟩
        case measure => rw [HLE.out, HLC.out]; exact hlt7
      · have tt : decide ((tm : Int) ≤ now) = false := by simp; omega
        go_wp2_with (refine wpList_store_row rfl 25 _ _ rfl w5.heap.size (preL p n).toArray rfl rfl 25 _ HN.out (by rw [← HS.out]; kernel_rfl) HS.out (all_oneCell_toArray (preL_one _ _)) ?_)
        have hb6 := HB6.out; have rg6 := HR6.out; have G6 := HG6.out
        clear HN6 HB6 HR6 HG6 HN HS hen
        generalize ((w5.alloc (.cells #[.int .u8 0, .int .u8 0, .int .u8 0, .int .u8 0, .int .u8 0, .int .u8 0, .int .u8 0, .int .u8 0, .int .u8 0, .int .u8 0, .int .u8 0, .int .u8 0, .int .u8 0, .int .u8 0, .int .u8 0, .int .u8 0, .int .u8 0] 25)).setRow w5.heap.size (preL p n).toArray) = w6 at *
        have I6 : TickInv b mb r now D0 D (fun z => left z && !z.sameKey (keyLit p n)) cnt5 n0 w w6 := by
          refine ⟨rg6, fun kl => ?_, I.at_, fun kl hl => I.le kl (by simp at hl; exact hl.1), I.cnt, I.tidy, hb6, G6, I.rlt, I.bm, I.br⟩
          rw [I.has]
          by_cases e : kl = keyLit p n
          · rw [e, htm, decide_eq_true (show now < tm by omega), Bool.or_true, Bool.or_true]
          · rw [Maps.sameKey_ne e]; simp
        have HLE := Lib.hid rg6.left_eq; have HLC := Lib.hid I.rg.left_eq
        clear rg6 hb6 G6
        go_roundw
        case rel => exact ⟨_, _, _, _, rfl, I6⟩
        case measure => rw [HLE.out, HLC.out]; exact hlt5
end Go.Proofs.Ytkhbchgocilclaa
