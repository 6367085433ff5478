/- What comes in: an address, news of a prefix, a slice of acts. No condition. -/
import Derived.Test.YtkhbchgocilclaaHoldRound
import Derived.OpenShut
namespace Go.Proofs.Ytkhbchgocilclaa
open Go.RowKit Go.ChangeShapes Go.WideShapes
set_option linter.unusedVariables false

theorem cell_of {w : World} {a : Addr} {v : Value} (h : w.cell? a = some v) : ∃ c t z, w.heap[a.block]? = some (.cells c t z) ∧ a.spot = none ∧ c[a.off]? = some v := by
  unfold World.cell? at h
  split at h
  · rename_i c t z hb
    split at h
    · cases h
    · rename_i hs
      exact ⟨c, t, z, hb, by cases hq : a.spot with
        | none => rfl
        | some x => rw [hq] at hs; exact absurd rfl hs, h⟩
  · cases h
theorem one_at {cs : List Value} {k : Nat} {v : Value} (h : (cs.drop k).take 1 = [v]) : cs[k]? = some v := by
  have := congrArg (·[0]?) h
  simpa [List.getElem?_take] using this

variable {H : Type} {enc : TypeId × Value → H} {w : World}
theorem field_come {P : Program} {t : TypeId} {fs : Array Field} {held : Bool} {fuel : Nat} {cs : List Value} {x : DataW H × List MemPlace} (hu : P.underlying t = some (.struct fs)) (h : DataW.trod enc P w 0 (fun _ => true) held fuel t cs = some x) {i : Nat} {f : Field} (hf : fs[i]? = some f) {ft fo fn : Nat} (e1 : f.type = ft) (e2 : f.offset = fo) (e3 : P.cellsOf ft = fn) :
    ∃ m y, DataW.trod enc P w 0 (fun _ => true) held m ft ((cs.drop fo).take fn) = some y := by
  subst e1 e2 e3
  obtain ⟨xs, n, _, _, _, hl, hi⟩ := DataW.trod_struct hu h
  have hlt : i < xs.length := by rw [hl]; exact (Array.getElem?_eq_some_iff.1 hf).1
  have := hi i f hf
  rw [List.getElem?_eq_getElem hlt] at this
  exact ⟨n, _, this⟩
theorem len_come {P : Program} {t : TypeId} {fs : Array Field} {held : Bool} {fuel : Nat} {cs : List Value} {x : DataW H × List MemPlace} (hu : P.underlying t = some (.struct fs)) (h : DataW.trod enc P w 0 (fun _ => true) held fuel t cs = some x) {n : Nat} (e : P.cellsOf t = n) : cs.length = n := by
  obtain ⟨xs, _, _, _, hl, _⟩ := DataW.trod_struct hu h
  rw [hl, e]
theorem int_come {P : Program} {t : TypeId} {k : IntKind} {held : Bool} {fuel : Nat} {cs : List Value} {x : DataW H × List MemPlace} {M : Nat} (hu : P.underlying t = some (.int k)) (hb : ∀ z, (Lit.int k z).wf = true → 0 ≤ z ∧ z < M) (h : DataW.trod enc P w 0 (fun _ => true) held fuel t cs = some x) : ∃ n : Nat, cs = [.int k (n : Int)] ∧ n < M := by
  obtain ⟨z, h1, _, h2⟩ := DataW.trod_int hu h
  obtain ⟨n, e, hn⟩ := nat_of (hb z h2)
  exact ⟨n, by rw [h1, e], hn⟩
theorem u8b : ∀ z, (Lit.int .u8 z).wf = true → 0 ≤ z ∧ z < (256 : Nat) := fun z h => by have := bounds_u8 h; omega
theorem u32b : ∀ z, (Lit.int .u32 z).wf = true → 0 ≤ z ∧ z < (4294967296 : Nat) := fun z h => by have := bounds_u32 h; omega
theorem adrL_get (a : Nat → Nat) {i : Nat} (h : i < 16) : (adrL a)[i]? = some (.int .u8 (a i : Int)) := by
  have := adrCells_get a h; simpa [adrCells] using this
theorem addr_come {held : Bool} {fuel : Nat} {cs : List Value} {x : DataW H × List MemPlace} (h : DataW.trod enc Try.prog w 0 (fun _ => true) held fuel 23 cs = some x) : ∃ a : Nat → Nat, cs = adrL a ∧ ∀ j, j < 16 → a j < 256 := by
  obtain ⟨xs, m, _, _, hl, hx, hi⟩ := DataW.trod_array Try.underlying23 h
  have e1 : Try.prog.cellsOf 5 = 1 := by kernel_rfl
  have e2 : Try.prog.cellsOf 23 = 16 := by kernel_rfl
  rw [e2] at hl
  have each : ∀ i, ∃ n : Nat, i < 16 → n < 256 ∧ cs[i]? = some (.int .u8 (n : Int)) := fun i => by
    by_cases hlt : i < 16
    · have := hi i hlt
      rw [e1, Nat.mul_one, List.getElem?_eq_getElem (by omega)] at this
      obtain ⟨n, h1, h2⟩ := int_come Try.underlying5 u8b this
      exact ⟨n, fun _ => ⟨h2, one_at h1⟩⟩
    · exact ⟨0, fun h => absurd h hlt⟩
  obtain ⟨a, ha⟩ := Classical.axiomOfChoice each
  refine ⟨a, ?_, fun j hj => (ha j hj).1⟩
  apply List.ext_getElem?
  intro i
  rcases Nat.lt_or_ge i 16 with hlt | hge
  · rw [(ha i hlt).2, adrL_get a hlt]
  · rw [List.getElem?_eq_none (by omega), List.getElem?_eq_none (by rw [adrL_length]; omega)]
theorem pre_come {held : Bool} {fuel : Nat} {cs : List Value} {x : DataW H × List MemPlace} (h : DataW.trod enc Try.prog w 0 (fun _ => true) held fuel 25 cs = some x) : ∃ (a : Nat → Nat) (n : Nat), cs = preL a n ∧ (∀ j, j < 16 → a j < 256) ∧ n < 256 := by
  have hl := len_come Try.underlying25 h (show Try.prog.cellsOf 25 = 17 by kernel_rfl)
  obtain ⟨m0, y0, h0⟩ := field_come Try.underlying25 h (i := 0) (ft := 23) (fo := 0) rfl rfl rfl (show Try.prog.cellsOf 23 = 16 by kernel_rfl)
  obtain ⟨m1, y1, h1⟩ := field_come Try.underlying25 h (i := 1) (ft := 5) (fo := 16) rfl rfl rfl (show Try.prog.cellsOf 5 = 1 by kernel_rfl)
  obtain ⟨a, ea, ha⟩ := addr_come h0
  obtain ⟨n, en, hn⟩ := int_come Try.underlying5 u8b h1
  refine ⟨a, n, ?_, ha, hn⟩
  have g := one_at en
  apply List.ext_getElem?
  intro i
  unfold preL
  rcases Nat.lt_or_ge i 16 with hlt | hge
  · rw [List.getElem?_append_left (by rw [adrL_length]; omega), ← ea, List.getElem?_take_of_lt hlt]; simp
  · rw [List.getElem?_append_right (by rw [adrL_length]; omega), adrL_length]
    rcases Nat.lt_or_ge 16 i with h2 | h2
    · rw [List.getElem?_eq_none (by omega), List.getElem?_eq_none (by simp; omega)]
    · obtain rfl : i = 16 := by omega
      rw [g]; rfl
theorem info_come {held : Bool} {fuel : Nat} {cs : List Value} {x : DataW H × List MemPlace} (h : DataW.trod enc Try.prog w 0 (fun _ => true) held fuel 28 cs = some x) : ∃ i : Info, cs = i.L ∧ i.Ok := by
  have hl := len_come Try.underlying28 h (show Try.prog.cellsOf 28 = 21 by kernel_rfl)
  obtain ⟨m0, y0, h0⟩ := field_come Try.underlying28 h (i := 0) (ft := 25) (fo := 0) rfl rfl rfl (show Try.prog.cellsOf 25 = 17 by kernel_rfl)
  obtain ⟨m1, y1, h1⟩ := field_come Try.underlying28 h (i := 1) (ft := 4) (fo := 17) rfl rfl rfl (show Try.prog.cellsOf 4 = 1 by kernel_rfl)
  obtain ⟨m2, y2, h2⟩ := field_come Try.underlying28 h (i := 2) (ft := 4) (fo := 18) rfl rfl rfl (show Try.prog.cellsOf 4 = 1 by kernel_rfl)
  obtain ⟨m3, y3, h3⟩ := field_come Try.underlying28 h (i := 3) (ft := 26) (fo := 19) rfl rfl rfl (show Try.prog.cellsOf 26 = 1 by kernel_rfl)
  obtain ⟨m4, y4, h4⟩ := field_come Try.underlying28 h (i := 4) (ft := 26) (fo := 20) rfl rfl rfl (show Try.prog.cellsOf 26 = 1 by kernel_rfl)
  obtain ⟨a, n, ea, ha, hn⟩ := pre_come h0
  obtain ⟨on, eon, _⟩ := DataW.trod_bool Try.underlying4 h1
  obtain ⟨au, eau, _⟩ := DataW.trod_bool Try.underlying4 h2
  obtain ⟨v, ev, hv⟩ := int_come Try.underlying26 u32b h3
  obtain ⟨pr, epr, _⟩ := int_come Try.underlying26 u32b h4
  refine ⟨⟨a, n, on, au, v, pr⟩, ?_, ⟨ha, hn, hv⟩⟩
  have g1 := one_at eon; have g2 := one_at eau; have g3 := one_at ev; have g4 := one_at epr
  have e : Info.L ⟨a, n, on, au, v, pr⟩ = preL a n ++ [.bool on, .bool au, .int .u32 (v : Int), .int .u32 (pr : Int)] := by simp [Info.L, preL]
  rw [e]
  apply List.ext_getElem?
  intro i
  rcases Nat.lt_or_ge i 17 with hlt | hge
  · rw [List.getElem?_append_left (by rw [preL_length]; omega), ← ea, List.getElem?_take_of_lt hlt]; simp
  · rw [List.getElem?_append_right (by rw [preL_length]; omega), preL_length]
    rcases Nat.lt_or_ge 20 i with h5 | h5
    · rw [List.getElem?_eq_none (by omega), List.getElem?_eq_none (by simp; omega)]
    · obtain rfl | rfl | rfl | rfl : i = 17 ∨ i = 18 ∨ i = 19 ∨ i = 20 := by omega
      · rw [g1]; rfl
      · rw [g2]; rfl
      · rw [g3]; rfl
      · rw [g4]; rfl
theorem act_come {held : Bool} {fuel : Nat} {cs : List Value} {x : DataW H × List MemPlace} (h : DataW.trod enc Try.prog w 0 (fun _ => true) held fuel 38 cs = some x) : ∃ (i : Info) (tick : Bool) (later : Nat), cs = .bool tick :: i.L ++ [.int .u32 (later : Int)] ∧ i.Ok ∧ later < 4294967296 := by
  have hl := len_come Try.underlying38 h (show Try.prog.cellsOf 38 = 23 by kernel_rfl)
  obtain ⟨m0, y0, h0⟩ := field_come Try.underlying38 h (i := 0) (ft := 4) (fo := 0) rfl rfl rfl (show Try.prog.cellsOf 4 = 1 by kernel_rfl)
  obtain ⟨m1, y1, h1⟩ := field_come Try.underlying38 h (i := 1) (ft := 28) (fo := 1) rfl rfl rfl (show Try.prog.cellsOf 28 = 21 by kernel_rfl)
  obtain ⟨m2, y2, h2⟩ := field_come Try.underlying38 h (i := 2) (ft := 26) (fo := 22) rfl rfl rfl (show Try.prog.cellsOf 26 = 1 by kernel_rfl)
  obtain ⟨tick, et, _⟩ := DataW.trod_bool Try.underlying4 h0
  obtain ⟨i, ei, hi⟩ := info_come h1
  obtain ⟨la, el, hla⟩ := int_come Try.underlying26 u32b h2
  refine ⟨i, tick, la, ?_, hi, hla⟩
  have g0 := one_at et; have g2 := one_at el
  apply List.ext_getElem?
  intro j
  rcases Nat.lt_or_ge j 1 with hlt | hge
  · obtain rfl : j = 0 := by omega
    rw [g0]; rfl
  · obtain ⟨j, rfl⟩ : ∃ k, j = k + 1 := ⟨j - 1, by omega⟩
    rw [List.cons_append, List.getElem?_cons_succ]
    rcases Nat.lt_or_ge j 21 with h5 | h5
    · rw [List.getElem?_append_left (by rw [Info.L_length]; omega), ← ei, List.getElem?_take_of_lt h5, List.getElem?_drop, Nat.add_comm]
    · rw [List.getElem?_append_right (by rw [Info.L_length]; omega), Info.L_length]
      rcases Nat.lt_or_ge 21 j with h6 | h6
      · rw [List.getElem?_eq_none (by omega), List.getElem?_eq_none (by simp; omega)]
      · obtain rfl : j = 21 := by omega
        rw [g2]; rfl
/-- the law's acts, as they stand in memory -/
def ActsIn (w : World) (B : Nat) (A : Option Addr) (n : Nat) (o : Nat → Info) (tick : Nat → Bool) (later : Nat → Nat) : Prop :=
  0 < n → ∃ b off, A = some ⟨b, off, none⟩ ∧ b < B ∧ ∀ k, k < n → w.rangeAt b (off + k * 23) (.bool (tick k) :: (o k).L ++ [.int .u32 (later k : Int)]) ∧ (o k).Ok ∧ later k < 4294967296
theorem acts_come {held : Bool} {fuel : Nat} {A : Option Addr} {len cap : Nat} {x : DataW H × List MemPlace} (h : DataW.trod enc Try.prog w 0 (fun _ => true) held fuel 29 [.slice A len cap] = some x) :
    len < 9223372036854775808 ∧ ∃ o tick later, ActsIn w w.heap.size A len o tick later := by
  rcases DataW.trod_slice Try.underlying29 h with ⟨h1, _⟩ | ⟨a, len', cap', elems, rest, n, _, h1, _, hb, hle, hm, hlen, hel, _⟩
  · simp only [List.cons.injEq, Value.slice.injEq, and_true] at h1
    obtain ⟨_, rfl, _⟩ := h1
    exact ⟨by decide, fun _ => ⟨fun _ => 0, 0, false, false, 0, 0⟩, fun _ => false, fun _ => 0, fun h => absurd h (by omega)⟩
  · simp only [List.cons.injEq, Value.slice.injEq, and_true] at h1
    obtain ⟨rfl, rfl, rfl⟩ := h1
    have e38 : Try.prog.cellsOf 38 = 23 := by kernel_rfl
    rw [e38] at hel
    have each : ∀ k, ∃ q : Info × Bool × Nat, k < len → (∃ cs : List Value, w.cells? 0 (a.add (k * 23)) 23 = some cs ∧ cs = .bool q.2.1 :: q.1.L ++ [.int .u32 (q.2.2 : Int)]) ∧ q.1.Ok ∧ q.2.2 < 4294967296 := fun k => by
      by_cases hk : k < len
      · have := hel k hk
        rw [List.getElem?_eq_getElem (by omega), Option.bind_eq_some_iff] at this
        obtain ⟨cs, h2, h3⟩ := this
        obtain ⟨i, t, l, h4, h5, h6⟩ := act_come h3
        exact ⟨⟨i, t, l⟩, fun _ => ⟨⟨cs, h2, h4⟩, h5, h6⟩⟩
      · exact ⟨⟨⟨fun _ => 0, 0, false, false, 0, 0⟩, false, 0⟩, fun h => absurd h hk⟩
    obtain ⟨f, hf⟩ := Classical.axiomOfChoice each
    refine ⟨by unfold maxLen at hm; omega, fun k => (f k).1, fun k => (f k).2.1, fun k => (f k).2.2, fun hp => ?_⟩
    have cellat : ∀ k, k < len → ∀ j v, (.bool (f k).2.1 :: (f k).1.L ++ [.int .u32 ((f k).2.2 : Int)] : List Value)[j]? = some v → w.cell? ((a.add (k * 23)).add j) = some v := fun k hk j v hj => by
      obtain ⟨⟨cs, h2, h3⟩, _⟩ := hf k hk
      have h4 := World.cells?_some h2
      have hlj : j < 23 := by
        have := (List.getElem?_eq_some_iff.1 hj).1
        simp [Info.L_length] at this; omega
      have := h4.2.2 j hlj
      rw [h3] at this
      rw [this]
      rw [List.getElem?_eq_getElem (by simp [Info.L_length]; omega)] at hj ⊢
      exact hj
    have c0 := cellat 0 hp 0 _ rfl
    obtain ⟨c, t, z, q1, q2, _⟩ := cell_of c0
    have sp : a.spot = none := by
      cases hq : a.spot with
      | none => rfl
      | some y => rw [show ((a.add (0 * 23)).add 0).spot = a.spot by unfold Addr.add; split <;> (try split) <;> simp_all] at q2; exact hq.symm.trans q2
    obtain ⟨b, off, spot⟩ := a
    simp only at sp
    subst sp
    have e0 : ((⟨b, off, none⟩ : Addr).add (0 * 23)).add 0 = ⟨b, off, none⟩ := by rw [Addr.add_mid, Addr.add_mid]; simp
    rw [e0] at q1
    refine ⟨b, off, rfl, lt_of_blk q1, fun k hk => ⟨fun j v hj => ?_, (hf k hk).2.1, (hf k hk).2.2⟩⟩
    have := cellat k hk j v hj
    rw [Addr.add_mid, Addr.add_mid] at this
    exact this
theorem ActsIn.at {w : World} {B n : Nat} {A : Option Addr} {o : Nat → Info} {tick : Nat → Bool} {later : Nat → Nat} (h : ActsIn w B A n o tick later) : ActsAt w B A n o := fun hn => by
  obtain ⟨b, off, e, hb, hc⟩ := h hn
  refine ⟨b, off, e, hb, fun k hk => ⟨fun j v hj => ?_, (hc k hk).2.1⟩⟩
  have := (hc k hk).1 (j + 1) v (by
    rw [List.cons_append, List.getElem?_cons_succ, List.getElem?_append_left (List.getElem?_eq_some_iff.1 hj).1]; exact hj)
  rwa [show off + k * 23 + (j + 1) = off + k * 23 + 1 + j from by omega] at this
theorem agg_of {v : Value} {l : List Value} (h : v.cells.toList = l) (hl : l.length ≠ 1) : v = .agg l.toArray := by
  unfold Value.cells at h
  split at h
  · rw [← h]
  · rw [← h] at hl; simp at hl
end Go.Proofs.Ytkhbchgocilclaa
