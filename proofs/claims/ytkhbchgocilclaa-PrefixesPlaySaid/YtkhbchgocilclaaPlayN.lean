/- The walk of Next: the least time of the map. No condition. -/
import Derived.Test.YtkhbchgocilclaaPlayR
namespace Go.Proofs.Ytkhbchgocilclaa
open Go.RowKit
set_option linter.unusedVariables false
theorem fold_min (L : List Ent) : ∀ n : Nat, (L.foldl (fun n e => min n e.2) n ≤ n ∧ (∀ e ∈ L, L.foldl (fun n e => min n e.2) n ≤ e.2) ∧ (L.foldl (fun n e => min n e.2) n = n ∨ ∃ e ∈ L, L.foldl (fun n e => min n e.2) n = e.2)) := by
  induction L with
  | nil => intro n; exact ⟨Nat.le_refl _, fun e h => (by cases h), .inl rfl⟩
  | cons x L ih =>
    intro n
    obtain ⟨h1, h2, h3⟩ := ih (min n x.2)
    rw [List.foldl_cons]
    refine ⟨by omega, fun e he => ?_, ?_⟩
    · rcases List.mem_cons.1 he with rfl | he
      · omega
      · exact h2 e he
    · rcases h3 with h3 | ⟨e, he, h3⟩
      · rcases Nat.le_total n x.2 with q | q
        · exact .inl (by rw [h3]; omega)
        · exact .inr ⟨x, by simp, by rw [h3]; omega⟩
      · exact .inr ⟨e, by simp [he], h3⟩
theorem min_is {L : List Ent} {n : Nat} (h1 : n ≤ forever) (h2 : ∀ e ∈ L, n ≤ e.2) (h3 : n = forever ∨ ∃ e ∈ L, n = e.2) : n = minL L := by
  obtain ⟨g1, g2, g3⟩ := fold_min L forever
  show n = L.foldl _ forever
  rcases h3 with h3 | ⟨e, he, h3⟩
  · rcases g3 with g3 | ⟨x, hx, g3⟩
    · rw [g3, h3]
    · have := h2 x hx; omega
  · have := g2 e he
    rcases g3 with g3 | ⟨x, hx, g3⟩
    · omega
    · have := h2 x hx; omega
structure NextInv (b mb r : Nat) (D : PD) (left : Lit → Bool) (cnt n : Nat) (w wr : World) : Prop where
  rg : wr.ranges Try.prog 25 (plainElem Try.prog 34) mb r (Maps.size D) D left cnt
  lo : n ≤ forever
  les : ∀ kl, Maps.has D kl = true → left kl = false → n ≤ timeOf (D.atKey kl .nil)
  wit : n = forever ∨ ∃ kl, Maps.has D kl = true ∧ n = timeOf (D.atKey kl .nil)
  le : ∀ kl, left kl = true → Maps.has D kl = true
  below : Below w.heap.size w wr
  rlt : w.heap.size ≤ r
set_option maxRecDepth 100000 in
set_option maxHeartbeats 2000000 in
theorem next34 (b mb : Nat) (D : PD) (w : World) (h : w.heap[b]? = some (.cells #[.map (some mb)] 58 (0, 0))) (hm : MapIs w mb D) (hD : LOk D) {L : List Ent} (hRel : Rel D L) :
    Calls Try.prog 34 #[.pointer (some ⟨b, 0, none⟩)] w fun e w' => e = .returned (.int .u64 (minL L : Int)) ∧ Below w.heap.size w w' := by
  have hblt := lt_of_blk h
  go_enter Try.func34, Try.ntmps34
  go_wp2_with fail
  refine (there_any b mb _ h).mono ?_
  rintro e w3 ⟨rfl, rfl⟩
  have cb : w.cell? ⟨b, 0, none⟩ = some (.map (some mb)) := cell_blk h 0
  go_wp2_with (at_range; refine wpList_range_own _ rfl _ 56 rfl 25 34 keyed Try.underlying56 _ mb _ _ rfl hm ?_; intro w4 rg4 gr4 sz4)
  have I0 : NextInv b mb w.heap.size D (Maps.has D) (Maps.size D) forever w w4 :=
    ⟨rg4, Nat.le_refl _, fun kl h1 h2 => (by rw [h1] at h2; cases h2), .inl rfl, fun _ h => h, ⟨gr4.os, gr4.tape, gr4.output, gr4.size, fun k hk => gr4.block k hk (by simp)⟩, Nat.le_refl _⟩
  clear rg4 gr4 sz4 cb
  obtain ⟨r, hr⟩ : ∃ r, r = w.heap.size := ⟨_, rfl⟩
  rw [← hr] at I0 ⊢
  clear hr
  go_frame
  go_loopw [3] (fun v wr => ∃ (left : Lit → Bool) (cnt n : Nat), v = .int .u64 (n : Int) ∧ NextInv b mb r D left cnt n w wr) (fun _ wr => wr.rangeLeft mb r)
  case atStart => exact ⟨_, _, _, rfl, I0⟩
  case round =>
    clear I0
    obtain ⟨left, cnt, n, rfl, I⟩ := hrel
    go_wp2_with (at_next; refine wpList_next_ranges _ rfl _ rfl 25 keyed (plainElem Try.prog 34) (fun v : Value => v) (Value.int .u64) (fun key _ _ => ⟨key, rfl⟩) (fun v y hv => by obtain ⟨c, rfl, _⟩ := plainElem_int_inv Try.underlying34 hv; exact ⟨c, rfl⟩) mb r _ D left cnt rfl I.rg ?_ ?_)
    · intro _ hl0
      have hmin : n = minL L := by
        refine min_is I.lo (fun e he => ?_) ?_
        · have := I.les _ (hRel.old e he).1 (hl0 _)
          have h2 := (hRel.old e he).2
          unfold untilAt at h2
          omega
        · rcases I.wit with h1 | ⟨kl, h1, h2⟩
          · exact .inl h1
          · obtain ⟨e, he, e1⟩ := hRel.all kl h1
            refine .inr ⟨e, he, ?_⟩
            rw [h2, e1]; exact (hRel.old e he).2
      have HM := Lib.hid hmin; have HB := Lib.hid I.below
      clear hmin I hl0
      go_wp2_with fail
      go_ret
      exact ⟨by rw [← HM.out]; rfl, HB.out⟩
    · intro x c kl y yp w5 cnt5 hkey hlk hv hat rg5 hlt5 gr5 sz5 hen
      obtain ⟨c', hc', hyd, hwf⟩ := plainElem_int_inv Try.underlying34 hv
      injection hc' with _ hc'
      subst hc'
      obtain ⟨hc0', hc1⟩ := bounds_u64 hwf
      obtain ⟨tm, rfl⟩ := Int.eq_ofNat_of_zero_le hc0'
      have y1 : (y, yp) = (DataW.lit (Lit.int .u64 (tm : Int)), []) := hyd
      have hy : y = DataW.lit (Lit.int .u64 (tm : Int)) := congrArg Prod.fst y1
      have htm : timeOf (D.atKey kl .nil) = tm := by
        rw [hat .nil]
        show timeOf y = tm
        rw [hy]; rfl
      have hself : kl.sameKey kl = true := by
        obtain ⟨p, n', hp, hn, rfl, _⟩ := hD.keys kl (I.le kl hlk)
        exact WideAt.sameKey_self (key_isKey _ _)
      have I5 : NextInv b mb r D (fun z => left z && !z.sameKey kl) cnt5 (min n tm) w w5 := by
        refine ⟨rg5, by have := I.lo; omega, fun z h1 h2 => ?_, ?_, fun z hz => I.le z (by simp at hz; exact hz.1), I.below.grown gr5 I.below.size (fun k hk => by injection hk with e; rw [← e]; exact I.rlt), I.rlt⟩
        · by_cases e : z = kl
          · rw [e, htm]; omega
          · rw [Maps.sameKey_ne e] at h2
            have := I.les z h1 (by simpa using h2)
            omega
        · rcases Nat.le_total n tm with q | q
          · rw [Nat.min_eq_left q]; exact I.wit
          · rw [Nat.min_eq_right q]; exact .inr ⟨kl, I.le kl hlk, htm.symm⟩
      have HLE := Lib.hid rg5.left_eq; have HLC := Lib.hid I.rg.left_eq; have HI5 := Lib.hid I5
      clear hyd y1 hy hat hwf hv hc0' hc1 htm hself I5 rg5 gr5 sz5 hkey I
      go_wp2_with fail
      case roundEnd =>
        exact ⟨⟨_, _, min n tm, by congr 1; omega, HI5.out⟩, by rw [HLE.out, HLC.out]; exact hlt5⟩
end Go.Proofs.Ytkhbchgocilclaa
