/- What comes in: bytes, a packet. No condition. -/
import Derived.Test.YtjldcblklbikaaaFA
import Derived.OpenShut
import Derived.LaidMore
import Derived.MakeChecks
import Derived.Test.YtjldcblklbikaaaZev19
namespace Go.Proofs.Ytjldcblklbikaaa
open Go.RowKit Go.ChangeShapes Go.WideShapes Go.Proofs.YtjldcblklbikaaaZev
set_option linter.unusedVariables false
variable {H : Type} {enc : TypeId × Value → H}
theorem cells5c : Try.prog.cellsOf 5 = 1 := by kernel_rfl
theorem cells41c : Try.prog.cellsOf 41 = 1 := by kernel_rfl
theorem bytes_arg {W : World} {held : Bool} {fuel : Nat} {cs : List Value} {x : DataW H × List MemPlace} (h : DataW.trod enc Try.prog W 0 (fun _ => true) held fuel 41 cs = some x) :
    ∃ A c l, cs = [.slice A l.length c] ∧ Bs W W.heap.size A c l ∧ ∀ y ∈ l, y < 256 := by
  rcases open_ints Try.underlying41 Try.underlying5 cells5c h with ⟨hcs, _⟩ | ⟨a, len, cap, zs, hcs, _, hl, hm, hz, _, hcell, hwz⟩
  · exact ⟨none, 0, [], hcs, ⟨RdL.nil, Nat.le_refl _, fun _ => ⟨rfl, rfl⟩, Nat.zero_le _⟩, fun y hy => by cases hy⟩
  · have hzl : len ≤ zs.length := by rw [hz]; split <;> omega
    have hb : ∀ i, i < len → 0 ≤ zs.getD i 0 ∧ zs.getD i 0 < 256 := fun i hi => by
      have : (Lit.int .u8 (zs.getD i 0)).wf = true := hwz _ (by
        rw [List.getD_eq_getElem?_getD, List.getElem?_eq_getElem (by omega), Option.getD_some]
        exact List.getElem_mem _)
      have := bounds_u8 this
      omega
    refine ⟨some a, cap, (List.range len).map fun i => (zs.getD i 0).toNat, by simpa using hcs, ⟨fun hne => ?_, by simpa using hl, (fun e => by cases e), by omega⟩, fun y hy => ?_⟩
    · have hpos : 0 < len := by
        rcases Nat.eq_zero_or_pos len with e | e
        · subst e; simp at hne
        · exact e
      obtain ⟨b, off, rfl, hcc⟩ := ints_at hcell (by omega)
      refine ⟨b, off, rfl, lt_of_cell (hcc 0 (by omega)), fun k y hk => ?_⟩
      rw [List.getElem?_map] at hk
      obtain ⟨j, hj, rfl⟩ := Option.map_eq_some_iff.1 hk
      have hkl : k < len := by
        have := (List.getElem?_eq_some_iff.1 hj).1
        simpa using this
      rw [List.getElem?_range hkl] at hj
      cases hj
      rw [hcc k (by omega)]
      have := hb k hkl
      rw [Int.toNat_of_nonneg this.1]
    · obtain ⟨i, hi, rfl⟩ := List.mem_map.1 hy
      have := hb i (by simpa using hi)
      omega
theorem cells_row8 : ∀ (n : Nat) {ds : List Lf} {cs : List Value}, CellsAre (List.replicate n (Lf.int .u8) ++ ds) cs → ∃ l r, cs = row8 l ++ r ∧ l.length = n ∧ (∀ y ∈ l, y < 256) ∧ CellsAre ds r
  | 0, ds, cs, h => ⟨[], cs, rfl, rfl, fun y hy => (by cases hy), h⟩
  | n + 1, ds, cs, h => by
    rw [List.replicate_succ, List.cons_append] at h
    obtain ⟨x, r, rfl, ⟨z, rfl, hz⟩, hr⟩ := h
    obtain ⟨l, r2, rfl, hl, h8, h2⟩ := cells_row8 n hr
    have hb : 0 ≤ z ∧ z < 256 := by simp [IntKind.has, IntKind.min, IntKind.max, IntKind.signed, IntKind.bits] at hz; omega
    refine ⟨z.toNat :: l, r2, ?_, by simp [hl], fun y hy => ?_, h2⟩
    · show _ = Value.int .u8 ((z.toNat : Nat) : Int) :: (row8 l ++ r2)
      rw [Int.toNat_of_nonneg hb.1]
    · rcases List.mem_cons.1 hy with rfl | hy
      · omega
      · exact h8 y hy
theorem oneIs41 : lfOf (Try.prog.underlying 41) = some Lf.slice := by kernel_rfl
theorem slice_form {v : Value} (h : CellIs Lf.slice v) : ∃ A n c, v = .slice A n c := by
  rcases h with rfl | ⟨a, n, c, rfl, _⟩
  · exact ⟨_, _, _, rfl⟩
  · exact ⟨_, _, _, rfl⟩
def leaves43 : List Lf := List.replicate 16 (Lf.int .u8) ++ (List.replicate 16 (Lf.int .u8) ++ [.int .u8, .bool, .bool, .int .u32, .int .u16, .bool, .int .u8, .slice])
theorem rowIs43 : isRow Try.prog 43 = true := by kernel_rfl
theorem rowOf43 : lfsOf Try.prog 43 = some leaves43 := by kernel_rfl
theorem rowN43 : Try.prog.cellsOf 43 = leaves43.length := by kernel_rfl
theorem pk_cells {cs : List Value} (h : CellsAre leaves43 cs) : ∃ (s d : List Nat) (hp id off nx : Nat) (al is mo : Bool) (v : Value), cs = row8 s ++ (row8 d ++ [.int .u8 (hp : Int), .bool al, .bool is, .int .u32 (id : Int), .int .u16 (off : Int), .bool mo, .int .u8 (nx : Int), v]) ∧ s.length = 16 ∧ d.length = 16 ∧ (∀ y ∈ s, y < 256) ∧ (∀ y ∈ d, y < 256) ∧ hp < 256 ∧ id < 4294967296 ∧ off < 65536 ∧ nx < 256 := by
  obtain ⟨s, r1, rfl, hs, hs8, h1⟩ := cells_row8 16 h
  obtain ⟨d, r2, rfl, hd, hd8, h2⟩ := cells_row8 16 h1
  obtain ⟨_, _, rfl, ⟨z1, rfl, hz1⟩, _, _, rfl, ⟨al, rfl⟩, _, _, rfl, ⟨is, rfl⟩, _, _, rfl, ⟨z2, rfl, hz2⟩, _, _, rfl, ⟨z3, rfl, hz3⟩, _, _, rfl, ⟨mo, rfl⟩, _, _, rfl, ⟨z4, rfl, hz4⟩, v, _, rfl, _, rfl⟩ := h2
  have b1 : 0 ≤ z1 ∧ z1 < 256 := by simp [IntKind.has, IntKind.min, IntKind.max, IntKind.signed, IntKind.bits] at hz1; omega
  have b2 : 0 ≤ z2 ∧ z2 < 4294967296 := by simp [IntKind.has, IntKind.min, IntKind.max, IntKind.signed, IntKind.bits] at hz2; omega
  have b3 : 0 ≤ z3 ∧ z3 < 65536 := by simp [IntKind.has, IntKind.min, IntKind.max, IntKind.signed, IntKind.bits] at hz3; omega
  have b4 : 0 ≤ z4 ∧ z4 < 256 := by simp [IntKind.has, IntKind.min, IntKind.max, IntKind.signed, IntKind.bits] at hz4; omega
  refine ⟨s, d, z1.toNat, z2.toNat, z3.toNat, z4.toNat, al, is, mo, v, ?_, hs, hd, hs8, hd8, by omega, by omega, by omega, by omega⟩
  rw [Int.toNat_of_nonneg b1.1, Int.toNat_of_nonneg b2.1, Int.toNat_of_nonneg b3.1, Int.toNat_of_nonneg b4.1]
theorem field_come {P : Program} {w : World} {t : TypeId} {fs : Array Field} {held : Bool} {fuel : Nat} {cs : List Value} {x : DataW H × List MemPlace} (hu : P.underlying t = some (.struct fs)) (h : DataW.trod enc P w 0 (fun _ => true) held fuel t cs = some x) {i : Nat} {f : Field} (hf : fs[i]? = some f) {ft fo fn : Nat} (e1 : f.type = ft) (e2 : f.offset = fo) (e3 : P.cellsOf ft = fn) :
    ∃ m y, DataW.trod enc P w 0 (fun _ => true) held m ft ((cs.drop fo).take fn) = some y := by
  subst e1 e2 e3
  cases fuel with
  | zero => simp [DataW.trod] at h
  | succ m =>
    unfold DataW.trod at h
    rw [hu] at h
    simp only at h
    split at h
    case isFalse => cases h
    rw [Option.map_eq_some_iff] at h
    obtain ⟨xs, hxs, _⟩ := h
    obtain ⟨_, m2⟩ := mapM_get hxs
    obtain ⟨y, _, y2⟩ := m2 i f (by simpa using hf)
    exact ⟨m, y, y2⟩
/-- a packet that comes in -/
theorem pk_arg {W : World} {held : Bool} {fuel : Nat} {cs : List Value} {x : DataW H × List MemPlace} (hc : CellsAre leaves43 cs) (h : DataW.trod enc Try.prog W 0 (fun _ => true) held fuel 43 cs = some x) : ∃ y A c, PkAt cs y A c ∧ Bs W W.heap.size A c y.body := by
  obtain ⟨s, d, hp, id, off, nx, al, is, mo, v, rfl, hs, hd, hs8, hd8, b1, b2, b3, b4⟩ := pk_cells hc
  obtain ⟨m, y, hy⟩ := field_come (i := 6) Try.underlying43 h rfl (ft := 41) (fo := 39) rfl rfl cells41c
  have e : ((row8 s ++ (row8 d ++ [.int .u8 (hp : Int), .bool al, .bool is, .int .u32 (id : Int), .int .u16 (off : Int), .bool mo, .int .u8 (nx : Int), v])).drop 39).take 1 = [v] := by
    rw [List.drop_append, List.drop_eq_nil_of_le (by rw [row8_length]; omega), List.nil_append, row8_length, hs, List.drop_append, List.drop_eq_nil_of_le (by rw [row8_length]; omega), List.nil_append, row8_length, hd]
    rfl
  rw [e] at hy
  obtain ⟨A, c, l, hv, hb, h8⟩ := bytes_arg hy
  obtain rfl : v = .slice A l.length c := by simpa using hv
  exact ⟨⟨s, d, hp, al, is, id, off, mo, nx, l⟩, A, c, ⟨rfl, ⟨hs, hd, hs8, hd8, b1, b2, b3, b4, h8⟩⟩, hb⟩
end Go.Proofs.Ytjldcblklbikaaa
