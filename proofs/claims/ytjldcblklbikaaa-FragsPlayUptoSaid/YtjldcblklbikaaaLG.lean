/- Several texts in one: Come, LG. No condition beyond those that each part names. -/
import Derived.Test.YtjldcblklbikaaaFA
import Derived.OpenShut
import Derived.LaidMore
import Derived.MakeChecks
import Derived.Test.YtjldcblklbikaaaZevX8
import Derived.Test.YtjldcblklbikaaaRM
import Derived.Test.YtjldcblklbikaaaRows
/- What comes in: bytes, a packet. No condition. -/
namespace Go.Proofs.Ytjldcblklbikaaa
open Go.RowKit Go.ChangeShapes Go.WideShapes Go.Proofs.YtjldcblklbikaaaZev
set_option linter.unusedVariables false
variable {H : Type} {enc : TypeId × Value → H}
theorem cells5c : Try.prog.cellsOf 5 = 1 := by kernel_rfl
theorem cells41c : Try.prog.cellsOf 41 = 1 := by kernel_rfl
theorem bytes_arg {W : World} {held : Bool} {fuel : Nat} {cs : List Value} {x : DataW H × List MemPlace} (h : DataW.trod enc Try.prog W 0 (fun _ => true) held fuel 41 cs = some x) :
    ∃ A c l, cs = [.slice A l.length c] ∧ Bs W W.heap.size A c l ∧ ∀ y ∈ l, y < 256 := by
  rcases open_ints Try.underlying41 Try.underlying5 cells5c h with ⟨hcs, _⟩ | ⟨a, len, cap, zs, hcs, _, hl, hm, hz, _, hcell, hwz⟩
  · exact ⟨none, 0, [], hcs, ⟨RdL.nil, Nat.le_refl _, fun _ => ⟨rfl, rfl⟩, Nat.zero_le _⟩, fun y hy => by cases hy⟩
  · have hzl : len ≤ zs.length := by rw [hz]; split <;> omega
    have hb : ∀ i, i < len → 0 ≤ zs.getD i 0 ∧ zs.getD i 0 < 256 := fun i hi => by
      have : (Lit.int .u8 (zs.getD i 0)).wf = true := hwz _ (by
        rw [List.getD_eq_getElem?_getD, List.getElem?_eq_getElem (by omega), Option.getD_some]
        exact List.getElem_mem _)
      have := bounds_u8 this
      omega
    refine ⟨some a, cap, (List.range len).map fun i => (zs.getD i 0).toNat, by simpa using hcs, ⟨fun hne => ?_, by simpa using hl, (fun e => by cases e), by omega⟩, fun y hy => ?_⟩
    · have hpos : 0 < len := by
        rcases Nat.eq_zero_or_pos len with e | e
        · subst e; simp at hne
        · exact e
      obtain ⟨b, off, rfl, hcc⟩ := ints_at hcell (by omega)
      refine ⟨b, off, rfl, lt_of_cell (hcc 0 (by omega)), fun k y hk => ?_⟩
      rw [List.getElem?_map] at hk
      obtain ⟨j, hj, rfl⟩ := Option.map_eq_some_iff.1 hk
      have hkl : k < len := by
        have := (List.getElem?_eq_some_iff.1 hj).1
        simpa using this
      rw [List.getElem?_range hkl] at hj
      cases hj
      rw [hcc k (by omega)]
      have := hb k hkl
      rw [Int.toNat_of_nonneg this.1]
    · obtain ⟨i, hi, rfl⟩ := List.mem_map.1 hy
      have := hb i (by simpa using hi)
      omega
theorem cells_row8 : ∀ (n : Nat) {ds : List Lf} {cs : List Value}, CellsAre (List.replicate n (Lf.int .u8) ++ ds) cs → ∃ l r, cs = row8 l ++ r ∧ l.length = n ∧ (∀ y ∈ l, y < 256) ∧ CellsAre ds r
  | 0, ds, cs, h => ⟨[], cs, rfl, rfl, fun y hy => (by cases hy), h⟩
  | n + 1, ds, cs, h => by
    rw [List.replicate_succ, List.cons_append] at h
    obtain ⟨x, r, rfl, ⟨z, rfl, hz⟩, hr⟩ := h
    obtain ⟨l, r2, rfl, hl, h8, h2⟩ := cells_row8 n hr
    have hb : 0 ≤ z ∧ z < 256 := by simp [IntKind.has, IntKind.min, IntKind.max, IntKind.signed, IntKind.bits] at hz; omega
    refine ⟨z.toNat :: l, r2, ?_, by simp [hl], fun y hy => ?_, h2⟩
    · show _ = Value.int .u8 ((z.toNat : Nat) : Int) :: (row8 l ++ r2)
      rw [Int.toNat_of_nonneg hb.1]
    · rcases List.mem_cons.1 hy with rfl | hy
      · omega
      · exact h8 y hy
theorem oneIs41 : lfOf (Try.prog.underlying 41) = some Lf.slice := by kernel_rfl
theorem slice_form {v : Value} (h : CellIs Lf.slice v) : ∃ A n c, v = .slice A n c := by
  rcases h with rfl | ⟨a, n, c, rfl, _⟩
  · exact ⟨_, _, _, rfl⟩
  · exact ⟨_, _, _, rfl⟩
def leaves43 : List Lf := List.replicate 16 (Lf.int .u8) ++ (List.replicate 16 (Lf.int .u8) ++ [.int .u8, .bool, .bool, .int .u32, .int .u16, .bool, .int .u8, .slice])
theorem rowIs43 : isRow Try.prog 43 = true := by kernel_rfl
theorem rowOf43 : lfsOf Try.prog 43 = some leaves43 := by kernel_rfl
theorem rowN43 : Try.prog.cellsOf 43 = leaves43.length := by kernel_rfl
theorem pk_cells {cs : List Value} (h : CellsAre leaves43 cs) : ∃ (s d : List Nat) (hp id off nx : Nat) (al is mo : Bool) (v : Value), cs = row8 s ++ (row8 d ++ [.int .u8 (hp : Int), .bool al, .bool is, .int .u32 (id : Int), .int .u16 (off : Int), .bool mo, .int .u8 (nx : Int), v]) ∧ s.length = 16 ∧ d.length = 16 ∧ (∀ y ∈ s, y < 256) ∧ (∀ y ∈ d, y < 256) ∧ hp < 256 ∧ id < 4294967296 ∧ off < 65536 ∧ nx < 256 := by
  obtain ⟨s, r1, rfl, hs, hs8, h1⟩ := cells_row8 16 h
  obtain ⟨d, r2, rfl, hd, hd8, h2⟩ := cells_row8 16 h1
  obtain ⟨_, _, rfl, ⟨z1, rfl, hz1⟩, _, _, rfl, ⟨al, rfl⟩, _, _, rfl, ⟨is, rfl⟩, _, _, rfl, ⟨z2, rfl, hz2⟩, _, _, rfl, ⟨z3, rfl, hz3⟩, _, _, rfl, ⟨mo, rfl⟩, _, _, rfl, ⟨z4, rfl, hz4⟩, v, _, rfl, _, rfl⟩ := h2
  have b1 : 0 ≤ z1 ∧ z1 < 256 := by simp [IntKind.has, IntKind.min, IntKind.max, IntKind.signed, IntKind.bits] at hz1; omega
  have b2 : 0 ≤ z2 ∧ z2 < 4294967296 := by simp [IntKind.has, IntKind.min, IntKind.max, IntKind.signed, IntKind.bits] at hz2; omega
  have b3 : 0 ≤ z3 ∧ z3 < 65536 := by simp [IntKind.has, IntKind.min, IntKind.max, IntKind.signed, IntKind.bits] at hz3; omega
  have b4 : 0 ≤ z4 ∧ z4 < 256 := by simp [IntKind.has, IntKind.min, IntKind.max, IntKind.signed, IntKind.bits] at hz4; omega
  refine ⟨s, d, z1.toNat, z2.toNat, z3.toNat, z4.toNat, al, is, mo, v, ?_, hs, hd, hs8, hd8, by omega, by omega, by omega, by omega⟩
  rw [Int.toNat_of_nonneg b1.1, Int.toNat_of_nonneg b2.1, Int.toNat_of_nonneg b3.1, Int.toNat_of_nonneg b4.1]
theorem field_come {P : Program} {w : World} {t : TypeId} {fs : Array Field} {held : Bool} {fuel : Nat} {cs : List Value} {x : DataW H × List MemPlace} (hu : P.underlying t = some (.struct fs)) (h : DataW.trod enc P w 0 (fun _ => true) held fuel t cs = some x) {i : Nat} {f : Field} (hf : fs[i]? = some f) {ft fo fn : Nat} (e1 : f.type = ft) (e2 : f.offset = fo) (e3 : P.cellsOf ft = fn) :
    ∃ m y, DataW.trod enc P w 0 (fun _ => true) held m ft ((cs.drop fo).take fn) = some y := by
  subst e1 e2 e3
  cases fuel with
  | zero => simp [DataW.trod] at h
  | succ m =>
    unfold DataW.trod at h
    rw [hu] at h
    simp only at h
    split at h
    case isFalse => cases h
    rw [Option.map_eq_some_iff] at h
    obtain ⟨xs, hxs, _⟩ := h
    obtain ⟨_, m2⟩ := mapM_get hxs
    obtain ⟨y, _, y2⟩ := m2 i f (by simpa using hf)
    exact ⟨m, y, y2⟩
/-- a packet that comes in -/
theorem pk_arg {W : World} {held : Bool} {fuel : Nat} {cs : List Value} {x : DataW H × List MemPlace} (hc : CellsAre leaves43 cs) (h : DataW.trod enc Try.prog W 0 (fun _ => true) held fuel 43 cs = some x) : ∃ y A c, PkAt cs y A c ∧ Bs W W.heap.size A c y.body := by
  obtain ⟨s, d, hp, id, off, nx, al, is, mo, v, rfl, hs, hd, hs8, hd8, b1, b2, b3, b4⟩ := pk_cells hc
  obtain ⟨m, y, hy⟩ := field_come (i := 6) Try.underlying43 h rfl (ft := 41) (fo := 39) rfl rfl cells41c
  have e : ((row8 s ++ (row8 d ++ [.int .u8 (hp : Int), .bool al, .bool is, .int .u32 (id : Int), .int .u16 (off : Int), .bool mo, .int .u8 (nx : Int), v])).drop 39).take 1 = [v] := by
    rw [List.drop_append, List.drop_eq_nil_of_le (by rw [row8_length]; omega), List.nil_append, row8_length, hs, List.drop_append, List.drop_eq_nil_of_le (by rw [row8_length]; omega), List.nil_append, row8_length, hd]
    rfl
  rw [e] at hy
  obtain ⟨A, c, l, hv, hb, h8⟩ := bytes_arg hy
  obtain rfl : v = .slice A l.length c := by simpa using hv
  exact ⟨⟨s, d, hp, al, is, id, off, mo, nx, l⟩, A, c, ⟨rfl, ⟨hs, hd, hs8, hd8, b1, b2, b3, b4, h8⟩⟩, hb⟩
end Go.Proofs.Ytjldcblklbikaaa

/- What comes in: a list of acts on a pool, and what its bulk says of its bodies. No condition. -/
namespace Go.Proofs.Ytjldcblklbikaaa
open Go.RowKit Go.ChangeShapes Go.WideShapes Go.Proofs.YtjldcblklbikaaaZev
set_option linter.unusedVariables false
set_option linter.unusedSectionVars false
variable {H : Type} {enc : TypeId × Value → H} {w : World}
theorem bulk_pos (d : DataW H) : 1 ≤ Rows.uptoBulk d := by
  cases d with
  | lit l => cases l <;> simp only [Rows.uptoBulk] <;> omega
  | _ => simp only [Rows.uptoBulk] <;> omega
theorem bulk_mem : ∀ (ds : List (DataW H)) (j : Nat) (d : DataW H), ds[j]? = some d → Rows.uptoBulk d ≤ Rows.uptoBulkAll ds := by
  intro ds
  induction ds with
  | nil => intro j d h; simp at h
  | cons x r ih =>
    intro j d h
    simp only [Rows.uptoBulkAll]
    match j with
    | 0 =>
      simp only [List.getElem?_cons_zero, Option.some.injEq] at h
      subst h
      omega
    | j + 1 =>
      rw [List.getElem?_cons_succ] at h
      have := ih j d h
      omega
theorem bulk_len : ∀ (ds : List (DataW H)), ds.length ≤ Rows.uptoBulkAll ds := by
  intro ds
  induction ds with
  | nil => simp [Rows.uptoBulkAll]
  | cons x r ih =>
    simp only [Rows.uptoBulkAll, List.length_cons]
    have := bulk_pos x
    omega
theorem slice_bulk {t e : TypeId} (hu : Try.prog.underlying t = some (.slice e)) {held : Bool} {fuel : Nat} {A : Option Addr} {n c : Nat} {d : DataW H} {ps : List MemPlace} (h : DataW.trod enc Try.prog w 0 (fun _ => true) held fuel t [.slice A n c] = some (d, ps)) : n ≤ Rows.uptoBulk d := by
  rcases DataW.trod_slice hu h with ⟨h1, _⟩ | ⟨a, len, cap, elems, rest, k, _, h1, hx, hb, hle, hm, hlen, hel, hrest, _⟩
  · simp only [List.cons.injEq, Value.slice.injEq] at h1
    omega
  · simp only [List.cons.injEq, Value.slice.injEq] at h1
    have hd : d = .slice (elems.map (·.1)) (rest.map (·.1)) := (Prod.mk.inj hx).1
    rw [hd]
    simp only [Rows.uptoBulk]
    have := bulk_len (elems.map (·.1))
    rw [List.length_map] at this
    omega
theorem int_come {P : Program} {t : TypeId} {k : IntKind} {held : Bool} {fuel : Nat} {cs : List Value} {x : DataW H × List MemPlace} {M : Nat} (hu : P.underlying t = some (.int k)) (hb : ∀ z, (Lit.int k z).wf = true → 0 ≤ z ∧ z < M) (h : DataW.trod enc P w 0 (fun _ => true) held fuel t cs = some x) : ∃ n : Nat, cs = [.int k (n : Int)] ∧ n < M := by
  obtain ⟨z, h1, _, h2⟩ := DataW.trod_int hu h
  obtain ⟨n, e, hn⟩ := nat_of (hb z h2)
  exact ⟨n, by rw [h1, e], hn⟩
theorem u8b : ∀ z, (Lit.int .u8 z).wf = true → 0 ≤ z ∧ z < (256 : Nat) := fun z h => by have := bounds_u8 h; omega
theorem u16b : ∀ z, (Lit.int .u16 z).wf = true → 0 ≤ z ∧ z < (65536 : Nat) := fun z h => by have := bounds_u16 h; omega
theorem u32b : ∀ z, (Lit.int .u32 z).wf = true → 0 ≤ z ∧ z < (4294967296 : Nat) := fun z h => by have := bounds_u32 h; omega
theorem u64b : ∀ z, (Lit.int .u64 z).wf = true → 0 ≤ z ∧ z < (18446744073709551616 : Nat) := fun z h => by have := bounds_u64 h; omega
theorem one_at {cs : List Value} {k : Nat} {v : Value} (h : (cs.drop k).take 1 = [v]) : cs[k]? = some v := by
  have := congrArg (·[0]?) h
  simpa [List.getElem?_take] using this
theorem arr16_come {held : Bool} {fuel : Nat} {cs : List Value} {x : DataW H × List MemPlace} (h : DataW.trod enc Try.prog w 0 (fun _ => true) held fuel 36 cs = some x) : ∃ l : List Nat, cs = row8 l ∧ l.length = 16 ∧ ∀ y ∈ l, y < 256 := by
  obtain ⟨xs, k, _, _, hl, hx, hi⟩ := DataW.trod_array Try.underlying36 h
  have e1 : Try.prog.cellsOf 5 = 1 := by kernel_rfl
  have e36 : Try.prog.cellsOf 36 = 16 := by kernel_rfl
  rw [e36] at hl
  have each : ∀ i, ∃ n : Nat, i < 16 → n < 256 ∧ cs[i]? = some (.int .u8 (n : Int)) := fun i => by
    by_cases hlt : i < 16
    · have := hi i hlt
      rw [e1, Nat.mul_one, List.getElem?_eq_getElem (by omega)] at this
      obtain ⟨n, h1, h2⟩ := int_come Try.underlying5 u8b this
      exact ⟨n, fun _ => ⟨h2, one_at h1⟩⟩
    · exact ⟨0, fun h => absurd h hlt⟩
  obtain ⟨a, ha⟩ := Classical.axiomOfChoice each
  refine ⟨(List.range 16).map a, ?_, by simp, fun y hy => ?_⟩
  · apply List.ext_getElem?
    intro i
    rcases Nat.lt_or_ge i 16 with hlt | hge
    · rw [(ha i hlt).2]
      exact (row8_get (by rw [List.getElem?_map, List.getElem?_range hlt]; rfl)).symm
    · rw [List.getElem?_eq_none (by omega), List.getElem?_eq_none (by rw [row8_length]; simp; omega)]
  · obtain ⟨i, hi2, rfl⟩ := List.mem_map.1 hy
    exact (ha i (List.mem_range.1 hi2)).1
theorem drop_split (cs : List Value) (k m : Nat) : cs.drop k = (cs.drop k).take m ++ cs.drop (k + m) := by
  rw [← List.drop_drop, List.take_append_drop]
theorem frag_come {held : Bool} {fuel : Nat} {cs : List Value} {x : DataW H × List MemPlace} (h : DataW.trod enc Try.prog w 0 (fun _ => true) held fuel 40 cs = some x) : ∃ (is mo : Bool) (id off : Nat), cs = [.bool is, .int .u32 (id : Int), .int .u16 (off : Int), .bool mo] ∧ id < 4294967296 ∧ off < 65536 := by
  obtain ⟨xs, n, _, hx, hlen, hl, hi⟩ := DataW.trod_struct Try.underlying40 h
  have e40 : Try.prog.cellsOf 40 = 4 := by kernel_rfl
  rw [e40] at hlen
  obtain ⟨m0, y0, h0⟩ := field_come Try.underlying40 h (i := 0) (ft := 4) (fo := 0) rfl rfl rfl (show Try.prog.cellsOf 4 = 1 by kernel_rfl)
  obtain ⟨m1, y1, h1⟩ := field_come Try.underlying40 h (i := 1) (ft := 37) (fo := 1) rfl rfl rfl (show Try.prog.cellsOf 37 = 1 by kernel_rfl)
  obtain ⟨m2, y2, h2⟩ := field_come Try.underlying40 h (i := 2) (ft := 38) (fo := 2) rfl rfl rfl (show Try.prog.cellsOf 38 = 1 by kernel_rfl)
  obtain ⟨m3, y3, h3⟩ := field_come Try.underlying40 h (i := 3) (ft := 4) (fo := 3) rfl rfl rfl (show Try.prog.cellsOf 4 = 1 by kernel_rfl)
  obtain ⟨is, k0, _⟩ := DataW.trod_bool Try.underlying4 h0
  obtain ⟨id, k1, b1⟩ := int_come Try.underlying37 u32b h1
  obtain ⟨off, k2, b2⟩ := int_come Try.underlying38 u16b h2
  obtain ⟨mo, k3, _⟩ := DataW.trod_bool Try.underlying4 h3
  refine ⟨is, mo, id, off, ?_, b1, b2⟩
  have z : cs.drop (0 + 1 + 1 + 1 + 1) = [] := List.drop_of_length_le (by omega)
  have e := drop_split cs 0 1
  rw [k0, drop_split cs (0 + 1) 1, k1, drop_split cs (0 + 1 + 1) 1, k2, drop_split cs (0 + 1 + 1 + 1) 1, k3, z, List.drop_zero] at e
  rw [e]; rfl
theorem pk_come {held : Bool} {fuel : Nat} {cs : List Value} {d : DataW H} {ps : List MemPlace} (h : DataW.trod enc Try.prog w 0 (fun _ => true) held fuel 43 cs = some (d, ps)) : ∃ y A c, PkAt cs y A c ∧ Bs w w.heap.size A c y.body ∧ y.body.length ≤ Rows.uptoBulk d := by
  obtain ⟨xs, n, _, hx, hlen, hl, hi⟩ := DataW.trod_struct Try.underlying43 h
  have hd : d = .agg (xs.map (·.1)) := (Prod.mk.inj hx).1
  have e43 : Try.prog.cellsOf 43 = 40 := by kernel_rfl
  rw [e43] at hlen
  replace hl : xs.length = 7 := hl
  obtain ⟨m0, y0, h0⟩ := field_come Try.underlying43 h (i := 0) (ft := 36) (fo := 0) rfl rfl rfl (show Try.prog.cellsOf 36 = 16 by kernel_rfl)
  obtain ⟨m1, y1, h1⟩ := field_come Try.underlying43 h (i := 1) (ft := 36) (fo := 16) rfl rfl rfl (show Try.prog.cellsOf 36 = 16 by kernel_rfl)
  obtain ⟨m2, y2, h2⟩ := field_come Try.underlying43 h (i := 2) (ft := 5) (fo := 32) rfl rfl rfl (show Try.prog.cellsOf 5 = 1 by kernel_rfl)
  obtain ⟨m3, y3, h3⟩ := field_come Try.underlying43 h (i := 3) (ft := 4) (fo := 33) rfl rfl rfl (show Try.prog.cellsOf 4 = 1 by kernel_rfl)
  obtain ⟨m4, y4, h4⟩ := field_come Try.underlying43 h (i := 4) (ft := 40) (fo := 34) rfl rfl rfl (show Try.prog.cellsOf 40 = 4 by kernel_rfl)
  obtain ⟨m5, y5, h5⟩ := field_come Try.underlying43 h (i := 5) (ft := 5) (fo := 38) rfl rfl rfl (show Try.prog.cellsOf 5 = 1 by kernel_rfl)
  have h6 : DataW.trod enc Try.prog w 0 (fun _ => true) held n 41 ((cs.drop 39).take (Try.prog.cellsOf 41)) = xs[6]? := hi 6 _ rfl
  rw [cells41c, List.getElem?_eq_getElem (by omega)] at h6
  generalize hx6 : xs[6] = x6 at h6
  obtain ⟨d6, p6⟩ := x6
  have b6 : Rows.uptoBulk d6 ≤ Rows.uptoBulkAll (xs.map (·.1)) := bulk_mem _ 6 d6 (by rw [List.getElem?_map, List.getElem?_eq_getElem (by omega), hx6]; rfl)
  have bd : Rows.uptoBulk d = Rows.uptoBulkAll (xs.map (·.1)) + 1 := by rw [hd]; simp only [Rows.uptoBulk]
  obtain ⟨s, k0, l0, a0⟩ := arr16_come h0
  obtain ⟨t, k1, l1, a1⟩ := arr16_come h1
  obtain ⟨hp, k2, a2⟩ := int_come Try.underlying5 u8b h2
  obtain ⟨al, k3, _⟩ := DataW.trod_bool Try.underlying4 h3
  obtain ⟨is, mo, id, off, k4, a4, a5⟩ := frag_come h4
  obtain ⟨nx, k5, a6⟩ := int_come Try.underlying5 u8b h5
  obtain ⟨A, c, l, k6, hb, h8⟩ := bytes_arg h6
  have hlb : l.length ≤ Rows.uptoBulk d6 := slice_bulk Try.underlying41 (by rw [k6] at h6; exact h6)
  refine ⟨⟨s, t, hp, al, is, id, off, mo, nx, l⟩, A, c, ⟨?_, ⟨l0, l1, a0, a1, a2, a4, a5, a6, h8⟩⟩, hb, by show l.length ≤ _; omega⟩
  have z : cs.drop (0 + 16 + 16 + 1 + 1 + 4 + 1 + 1) = [] := List.drop_of_length_le (by omega)
  have e := drop_split cs 0 16
  rw [k0, drop_split cs (0 + 16) 16, k1, drop_split cs (0 + 16 + 16) 1, k2, drop_split cs (0 + 16 + 16 + 1) 1, k3, drop_split cs (0 + 16 + 16 + 1 + 1) 4, k4, drop_split cs (0 + 16 + 16 + 1 + 1 + 4) 1, k5, drop_split cs (0 + 16 + 16 + 1 + 1 + 4 + 1) 1, k6, z, List.drop_zero] at e
  rw [e]
  simp [pkL]
theorem act_come {held : Bool} {fuel : Nat} {cs : List Value} {d : DataW H} {ps : List MemPlace} (h : DataW.trod enc Try.prog w 0 (fun _ => true) held fuel 45 cs = some (d, ps)) : ∃ a : Ac, cs = a.cells ∧ PkOk a.x.pk ∧ Bs w w.heap.size a.x.adr a.x.cap a.x.pk.body ∧ a.x.pk.body.length ≤ Rows.uptoBulk d ∧ a.now < 18446744073709551616 := by
  obtain ⟨xs, n, _, hx, hlen, hl, hi⟩ := DataW.trod_struct Try.underlying45 h
  have hd : d = .agg (xs.map (·.1)) := (Prod.mk.inj hx).1
  have e45 : Try.prog.cellsOf 45 = 42 := by kernel_rfl
  have e43 : Try.prog.cellsOf 43 = 40 := by kernel_rfl
  rw [e45] at hlen
  replace hl : xs.length = 3 := hl
  obtain ⟨m0, y0, h0⟩ := field_come Try.underlying45 h (i := 0) (ft := 4) (fo := 0) rfl rfl rfl (show Try.prog.cellsOf 4 = 1 by kernel_rfl)
  obtain ⟨m1, y1, h1⟩ := field_come Try.underlying45 h (i := 1) (ft := 34) (fo := 1) rfl rfl rfl (show Try.prog.cellsOf 34 = 1 by kernel_rfl)
  have h2 : DataW.trod enc Try.prog w 0 (fun _ => true) held n 43 ((cs.drop 2).take (Try.prog.cellsOf 43)) = xs[2]? := hi 2 _ rfl
  rw [e43, List.getElem?_eq_getElem (by omega)] at h2
  generalize hx2 : xs[2] = x2 at h2
  obtain ⟨d2, p2⟩ := x2
  have b2 : Rows.uptoBulk d2 ≤ Rows.uptoBulkAll (xs.map (·.1)) := bulk_mem _ 2 d2 (by rw [List.getElem?_map, List.getElem?_eq_getElem (by omega), hx2]; rfl)
  have bd : Rows.uptoBulk d = Rows.uptoBulkAll (xs.map (·.1)) + 1 := by rw [hd]; simp only [Rows.uptoBulk]
  obtain ⟨tk, k0, _⟩ := DataW.trod_bool Try.underlying4 h0
  obtain ⟨now, k1, a1⟩ := int_come Try.underlying34 u64b h1
  obtain ⟨y, A, c, hp, hb, hlb⟩ := pk_come h2
  refine ⟨⟨tk, now, ⟨y, A, c⟩⟩, ?_, hp.ok, hb, by show y.body.length ≤ _; omega, a1⟩
  have z : cs.drop (0 + 1 + 1 + 40) = [] := List.drop_of_length_le (by omega)
  have e := drop_split cs 0 1
  rw [k0, drop_split cs (0 + 1) 1, k1, drop_split cs (0 + 1 + 1) 40, hp.eq, z, List.drop_zero] at e
  rw [e]
  simp [Ac.cells, El.cells]
theorem oneIs22 : lfOf (Try.prog.underlying 22) = some Lf.slice := by kernel_rfl
theorem act_len {a : Ac} (h : PkOk a.x.pk) : a.cells.length = 42 := by
  have := (El.at_ h (e := a.x)).len
  simp [Ac.cells, this]
theorem elem_cells {a : Addr} {k m : Nat} {cs : List Value} (h : w.cells? 0 (a.add (k * m)) m = some cs) {j : Nat} {v : Value} (hj : cs[j]? = some v) : w.cell? ((a.add (k * m)).add j) = some v := by
  have h4 := World.cells?_some h
  have hl := h4.1
  have hlj := (List.getElem?_eq_some_iff.1 hj).1
  rw [h4.2.2 j (by omega)]
  exact hj
theorem cell_ofC {a : Addr} {v : Value} (h : w.cell? a = some v) : ∃ c t z, w.heap[a.block]? = some (.cells c t z) ∧ a.spot = none ∧ c[a.off]? = some v := by
  unfold World.cell? at h
  split at h
  · rename_i c t z hb
    split at h
    · cases h
    · rename_i hs
      exact ⟨c, t, z, hb, by cases hq : a.spot with
        | none => rfl
        | some x => rw [hq] at hs; exact absurd rfl hs, h⟩
  · cases h
theorem addr_plain {a : Addr} {m : Nat} {v : Value} (h : w.cell? ((a.add (0 * m)).add 0) = some v) : ∃ b o, a = ⟨b, o, none⟩ ∧ b < w.heap.size := by
  obtain ⟨c, t, z, q1, q2, _⟩ := cell_ofC h
  have sp : a.spot = none := by
    cases hq : a.spot with
    | none => rfl
    | some y => rw [show ((a.add (0 * m)).add 0).spot = a.spot by unfold Addr.add; split <;> (try split) <;> simp_all] at q2; exact hq.symm.trans q2
  obtain ⟨b, off, spot⟩ := a
  simp only at sp
  subst sp
  refine ⟨b, off, rfl, ?_⟩
  rw [Addr.add_mid, Addr.add_mid] at q1
  exact lt_of_blk q1
theorem acts_come {held : Bool} {fuel : Nat} {A : Option Addr} {len cap : Nat} {d : DataW H} {ps : List MemPlace} (h : DataW.trod enc Try.prog w 0 (fun _ => true) held fuel 22 [.slice A len cap] = some (d, ps)) (hbk : Rows.uptoBulk d ≤ 1048576) :
    ∃ L : List Ac, L.length = len ∧ ActsRd w w.heap.size A L := by
  have hn := slice_bulk Try.underlying22 h
  rcases DataW.trod_slice Try.underlying22 h with ⟨h1, _⟩ | ⟨a, len', cap', elems, rest, n, _, h1, hx, hb, hle, hm, hlen, hel, hrest, _⟩
  · simp only [List.cons.injEq, Value.slice.injEq, and_true] at h1
    obtain ⟨_, rfl, _⟩ := h1
    exact ⟨[], rfl, Nat.zero_le _, fun a ha => (by cases ha), fun h => absurd rfl h⟩
  · simp only [List.cons.injEq, Value.slice.injEq, and_true] at h1
    obtain ⟨rfl, rfl, rfl⟩ := h1
    have e45 : Try.prog.cellsOf 45 = 42 := by kernel_rfl
    rw [e45] at hel
    have hd : d = .slice (elems.map (·.1)) (rest.map (·.1)) := (Prod.mk.inj hx).1
    have bd : Rows.uptoBulkAll (elems.map (·.1)) ≤ Rows.uptoBulk d := by rw [hd]; simp only [Rows.uptoBulk]; omega
    have each : ∀ k, ∃ q : Ac, k < len → (∃ cs : List Value, w.cells? 0 (a.add (k * 42)) 42 = some cs ∧ cs = q.cells) ∧ PkOk q.x.pk ∧ Bs w w.heap.size q.x.adr q.x.cap q.x.pk.body ∧ q.x.pk.body.length ≤ 2000000 ∧ q.now < 18446744073709551616 := fun k => by
      by_cases hk : k < len
      · have := hel k hk
        rw [List.getElem?_eq_getElem (by omega), Option.bind_eq_some_iff] at this
        obtain ⟨cs, h2, h3⟩ := this
        generalize hek : elems[k] = ek at h3
        obtain ⟨dk, pk⟩ := ek
        have bk : Rows.uptoBulk dk ≤ Rows.uptoBulkAll (elems.map (·.1)) := bulk_mem _ k dk (by rw [List.getElem?_map, List.getElem?_eq_getElem (by omega), hek]; rfl)
        obtain ⟨q, h4, h5, h6, h7, h8⟩ := act_come h3
        exact ⟨q, fun _ => ⟨⟨cs, h2, h4⟩, h5, h6, by omega, h8⟩⟩
      · exact ⟨⟨false, 0, ⟨nilPk, none, 0⟩⟩, fun h => absurd h hk⟩
    obtain ⟨f, hf⟩ := Classical.axiomOfChoice each
    have hl : ((List.range len).map f).length = len := by simp
    have hgt : ∀ k q, ((List.range len).map f)[k]? = some q → k < len ∧ q = f k := fun k q hq => by
      have hk : k < len := by have := (List.getElem?_eq_some_iff.1 hq).1; rwa [hl] at this
      rw [List.getElem?_map, List.getElem?_range hk] at hq
      exact ⟨hk, (Option.some.inj hq).symm⟩
    have cellat : ∀ k, k < len → ∀ j v, (f k).cells[j]? = some v → w.cell? ((a.add (k * 42)).add j) = some v := fun k hk j v hj => by
      obtain ⟨⟨cs, h2, h3⟩, _⟩ := hf k hk
      exact elem_cells h2 (by rw [h3]; exact hj)
    refine ⟨(List.range len).map f, hl, by rw [hl]; omega, fun q hq => ?_, fun hne => ?_⟩
    · obtain ⟨k, hk, rfl⟩ := List.mem_map.1 hq
      exact (hf k (List.mem_range.1 hk)).2
    · have hp : 0 < len := by
        rcases Nat.eq_zero_or_pos len with h0 | h0
        · subst h0; exact absurd rfl hne
        · exact h0
      obtain ⟨b, o, rfl, hlt⟩ := addr_plain (cellat 0 hp 0 _ rfl)
      refine ⟨b, o, rfl, hlt, fun k q hq j v hj => ?_⟩
      obtain ⟨hk, rfl⟩ := hgt k q hq
      have := cellat k hk j v hj
      rw [Addr.add_mid, Addr.add_mid] at this
      exact this
end Go.Proofs.Ytjldcblklbikaaa
