/- The addresses as keys, the three maps of a table, and a new table. No condition but that each byte is one. (Written out by exp.py.) -/
import Derived.Test.YthbkjhacnnoolaaDoorGF
import Derived.Maps.RangeWalk
import Derived.DeepKeys4
import Derived.WideWitness
import Derived.WideKeyEntry
namespace Go.Proofs.YthbkjhacnnoolaaDoor
open Go.RowKit Go.MapKept Go.ChangeMaps
set_option linter.unusedVariables false
set_option linter.unusedSimpArgs false
theorem wf_u8 {x : Nat} (h : x < 256) : (Lit.int .u8 (x : Int)).wf = true := by
  simp [Lit.wf, IntKind.min, IntKind.max, IntKind.signed, IntKind.bits]; omega
theorem lits_u8 (d x : Nat) (h : x < 256) : Tryd.prog.keyLits (d + 1) 5 [.int .u8 (x : Int)] = some [.int .u8 (x : Int)] := by
  simp [Program.keyLits, Tryd.underlying5, wf_u8 h]
theorem cells26 : Tryd.prog.cellsOf 26 = 16 := by kernel_rfl
theorem cells5 : Tryd.prog.cellsOf 5 = 1 := by kernel_rfl
theorem mapM_cut (d : Nat) {l : List Nat} (h : ∀ x ∈ l, x < 256) : ∀ (n s : Nat), s + n = l.length →
    (List.range' s n).mapM (fun i => Tryd.prog.keyLits (d + 1) 5 (((row8 l).drop (i * 1)).take 1)) = some ((l.drop s).map fun (x : Nat) => [Lit.int .u8 (x : Int)])
  | 0, s, e => by
    rw [List.drop_of_length_le (by omega)]; rfl
  | n + 1, s, e => by
    have hs : s < l.length := by omega
    have e1 : ((row8 l).drop (s * 1)).take 1 = [.int .u8 ((l[s] : Nat) : Int)] := by
      rw [Nat.mul_one, row8, List.drop_eq_getElem_cons (by simpa using hs)]
      simp
    rw [List.range'_succ, List.mapM_cons, e1, lits_u8 d _ (h _ (List.getElem_mem hs)), mapM_cut d h n (s + 1) (by omega), List.drop_eq_getElem_cons hs]
    rfl
theorem lits_adr (d : Nat) {l : List Nat} (h : Adr l) : Tryd.prog.keyLits (d + 2) 26 (row8 l) = some (l.map fun (x : Nat) => Lit.int .u8 (x : Int)) := by
  unfold Program.keyLits
  rw [Tryd.underlying26]
  have hl : (row8 l).length = 16 := by rw [row8_length, h.len]
  simp only [cells26, cells5, hl, if_true]
  have := mapM_cut d h.low 16 0 (by rw [h.len])
  rw [List.range_eq_range', this]
  simp only [Option.map_some, Option.some.injEq, List.drop_zero]
  have key : ∀ m : List Nat, (m.map fun (x : Nat) => [Lit.int .u8 (x : Int)]).flatten = m.map fun (x : Nat) => Lit.int .u8 (x : Int) := by
    intro m
    induction m with
    | nil => rfl
    | cons x r ih => simp [ih]
  exact key l
theorem bytes_u8 {x : Nat} (h : x < 256) : (Lit.int .u8 (x : Int)).keyBytes = [UInt8.ofNat x] := by
  simp only [Lit.keyBytes, IntKind.bits]
  show bytesBE 1 ((x : Int) % 256).toNat = _
  have e : ((x : Int) % 256).toNat = x := by omega
  rw [e]
  simp [bytesBE, bytesLE, Nat.mod_eq_of_lt h]
def kl (l : List Nat) : Lit := .string (l.map UInt8.ofNat)
theorem keyOf_adr {l : List Nat} (h : Adr l) : keyOf Tryd.prog 26 (.agg (row8 l).toArray) = some (kl l) := by
  have hk : Tryd.prog.keyType 26 = true := by kernel_rfl
  have hs : 2 ≤ Tryd.prog.types.size := of_decide_eq_true (by kernel_rfl)
  obtain ⟨d, hd⟩ : ∃ d, Tryd.prog.types.size + 1 = d + 2 := ⟨Tryd.prog.types.size - 1, by omega⟩
  have hf : (Value.agg (row8 l).toArray).formed Tryd.prog 26 = true := by
    simp [Value.formed, Tryd.underlying26, cells26, row8_length, h.len]
  have hl : (Value.agg (row8 l).toArray).cells.toList = row8 l := rfl
  unfold keyOf
  rw [Tryd.underlying26]
  simp only [hk, hd, hf, hl, lits_adr d h, Bool.and_self, if_true, Option.map_some, kl, Option.some.injEq, Lit.string.injEq]
  have key : ∀ m : List Nat, (∀ x ∈ m, x < 256) → (m.map fun (x : Nat) => Lit.int .u8 (x : Int)).flatMap Lit.keyBytes = m.map UInt8.ofNat := by
    intro m
    induction m with
    | nil => intro _; rfl
    | cons x r ih => intro h; rw [List.map_cons, List.flatMap_cons, ih (fun i hi => h i (List.mem_cons_of_mem _ hi)), bytes_u8 (h x List.mem_cons_self)]; rfl
  unfold keyBytes
  exact key l h.low
theorem kl_inj {l m : List Nat} (hl : Adr l) (hm : Adr m) (h : kl l = kl m) : l = m := by
  simp only [kl, Lit.string.injEq] at h
  exact map8_inj hl.low hm.low h
theorem isKeyLit_kl (l : List Nat) : WideAt.IsKeyLit (kl l) := by simp [kl, WideAt.IsKeyLit]
theorem keyed : Maps.Keyed Tryd.prog 26 := Maps.Keyed.of_law (deep_law_laid (m := 8) (by kernel_rfl) (by omega) (of_decide_eq_true (by kernel_rfl)) (by kernel_rfl) (by kernel_rfl))
theorem law26 : WideMaps.KeyLaw Tryd.prog 26 := deep_law_laid (m := 8) (by kernel_rfl) (by omega) (of_decide_eq_true (by kernel_rfl)) (by kernel_rfl) (by kernel_rfl)
abbrev PD := DataW Unit
/-- how an element of the map 'changes' reads -/
def chElem : Value → Option (PD × List MemPlace)
  | .agg cs => match cs.toList with
    | [.int .u8 a, .int .i64 b, .int .u64 c] => some (.agg [.lit (.int .u8 a), .lit (.int .i64 b), .lit (.int .u64 c)], [])
    | _ => none
  | _ => none
abbrev chV (a b c : Int) : Value := .agg #[.int .u8 a, .int .i64 b, .int .u64 c]
def chD (a b c : Int) : PD := .agg [.lit (.int .u8 a), .lit (.int .i64 b), .lit (.int .u64 c)]
theorem chElem_mk (a b c : Int) : chElem (chV a b c) = some (chD a b c, []) := rfl
theorem chElem_inv {v : Value} {z : PD × List MemPlace} (h : chElem v = some z) : ∃ a b c, v = chV a b c ∧ z = (chD a b c, []) := by
  unfold chElem at h
  split at h
  · rename_i cs
    split at h
    · rename_i a b c e
      cases h
      refine ⟨a, b, c, ?_, rfl⟩
      have : cs = #[.int .u8 a, .int .i64 b, .int .u64 c] := by rw [← Array.toArray_toList (xs := cs), e]
      rw [this]
    · cases h
  · cases h
/-- the map of the joined groups; the map of the answers, empty; the map of the changes, whatever it holds -/
abbrev MJ (w : World) (b n : Nat) (D : PD) : Prop := w.ownsMap Tryd.prog 26 (plainElem Tryd.prog 3) b n D
abbrev MA (w : World) (b : Nat) : Prop := w.ownsMap Tryd.prog 26 (plainElem (H := Unit) Tryd.prog 36) b 0 (.map [])
abbrev MC (w : World) (b n : Nat) : Prop := ∃ D, w.ownsMap Tryd.prog 26 chElem b n D
section
variable {P : Program} {w : World} {t k e : TypeId} {R : Value → Option (PD × List MemPlace)} {b n : Nat} {D : PD}
/-- what the first step leaves is what a store of the old value leaves -/
theorem entry_is_update (K : WideMaps.KeyLaw P k) (ht : P.underlying t = some (.map k e)) {z : Value} (hz : ∀ u : World, (zeroValue e).run P u = .ok z u) {es : Array MapEntry} {clock : Nat} (hb : w.heap[b]? = some (.map es clock)) (F : WideElems.Fit P k R es clock)
    {key : Value} {kl : Lit} (hkey : keyOf P k key = some kl) {v0 : Value} {st : Nat} {w1 : World} (h : (Instr.mapEntry t (.map (some b)) key).run P w = .ok (.tuple #[v0, goInt st]) w1) :
    (Instr.mapUpdate t (.map (some b)) key v0).run P w = .ok () w1 ∧ (Instr.lookup t (.map (some b)) key false).run P w = .ok v0 w := by
  rcases K.find w hkey es.toList F.keys with ⟨h1, h2⟩ | ⟨j, e0, h1, h2, h3⟩
  · simp [Instr.mapEntry, run_underlying ht, MapKept.run_getObj_map hb, K.check w false hkey, h1, hz, MapKept.run_setObj_map _ hb, Result.andThen] at h
    obtain ⟨⟨rfl, _⟩, rfl⟩ := h
    simp [Instr.mapUpdate, run_underlying ht, MapKept.run_getObj_map hb, K.check w false hkey, h1, hz, MapKept.run_setObj_map _ hb, Result.andThen, Instr.lookup, K.check w es.isEmpty hkey]
  · have hj : es[j]? = some e0 := by simpa using h2
    simp [Instr.mapEntry, run_underlying ht, MapKept.run_getObj_map hb, K.check w false hkey, h1, hj, h3, K.stays w hkey, MapKept.run_setObj_map _ hb, Result.andThen] at h
    obtain ⟨⟨rfl, _⟩, rfl⟩ := h
    have hsame : es.modify j (fun e => { e with key := key }) = es := by
      apply Array.ext'
      rw [Array.toList_modify, modify_eq_set _ _ _ _ h2]
      have : ({ e0 with key := key } : MapEntry) = e0 := by rw [← h3]
      rw [this]
      exact WideElems.set_self _ _ _ h2
    have hsame2 : es.modify j (fun e => { e with key := key, val := e0.val }) = es := by
      apply Array.ext'
      rw [Array.toList_modify, modify_eq_set _ _ _ _ h2]
      have : ({ e0 with key := key, val := e0.val } : MapEntry) = e0 := by rw [← h3]
      rw [this]
      exact WideElems.set_self _ _ _ h2
    simp [Instr.mapUpdate, run_underlying ht, MapKept.run_getObj_map hb, K.check w false hkey, h1, hj, h3, K.stays w hkey, MapKept.run_setObj_map _ hb, Result.andThen, hsame, hsame2, Instr.lookup, K.check w es.isEmpty hkey]
/-- 'm[k] += x' in two steps -/
theorem entry_own (K : WideMaps.KeyLaw P k) (ht : P.underlying t = some (.map k e)) {z : Value} (hz : ∀ u : World, (zeroValue e).run P u = .ok z u) {zd : PD} {zp : List MemPlace} (hzd : R z = some (zd, zp))
    (h : w.ownsMap P k R b n D) (hn : n < maxLen) {key : Value} {kl : Lit} (hkey : keyOf P k key = some kl) :
    ∃ (v0 : Value) (st : Nat) (w1 : World), (Instr.mapEntry t (.map (some b)) key).run P w = .ok (.tuple #[v0, goInt st]) w1 ∧ w.mapTurned w1 b ∧
      w1.ownsMap P k R b (n + 1) (D.put kl (D.atKey kl zd)) ∧
      ∀ (w2 : World) (val : Value) (d : PD) (ps : List MemPlace), w2.heap[b]? = w1.heap[b]? → R val = some (d, ps) → ∃ w', (Instr.entryStore t (.map (some b)) (goInt st) val).run P w2 = .ok () w' ∧ w'.ownsMap P k R b (n + 1) (D.put kl d) ∧ w2.mapTurned w' b := by
  have K' := Maps.Keyed.of_law K
  have hown := h
  obtain ⟨es, clock, hb, F, hs, hD⟩ := h
  obtain ⟨v0, st, es1, clock1, hE, hcase, hS⟩ := WideElems.entry_then_store K ht hz hb F hkey
  obtain ⟨hu, hl⟩ := entry_is_update K ht hz hb F hkey hE
  have hv0 : ∃ ps, R v0 = some (D.atKey kl zd, ps) := by
    obtain ⟨v, ps, h1, h2⟩ := hown.lookup K' ht (hz w) hzd hkey
    rw [hl] at h1
    injection h1 with h1
    rw [h1]; exact ⟨ps, h2⟩
  obtain ⟨ps0, hR0⟩ := hv0
  refine ⟨v0, st, setBlock w b (.map es1 clock1), hE, ⟨es, clock, es1, clock1, hb, rfl⟩, ?_, ?_⟩
  · obtain ⟨w3, h3, h4, _⟩ := hown.store K' ht hn hkey hR0
    rw [hu] at h3
    injection h3 with _ h3
    rw [h3]; exact h4
  · intro w2 val d ps hw2 hR
    obtain ⟨es', clock', h1, h2⟩ := hS w2 val (by rw [hw2, heap_setBlock_same hb])
    obtain ⟨w3, h3, h4, h5⟩ := hown.store K' ht hn hkey hR
    rw [h2] at h3
    injection h3 with _ h3
    subst h3
    obtain ⟨es3, clock3, hb3, r3⟩ := h4
    rw [heap_setBlock_same hb] at hb3
    injection hb3 with hb3
    injection hb3 with q1 q2
    have hb2 : w2.heap[b]? = some (.map es1 clock1) := by rw [hw2, heap_setBlock_same hb]
    exact ⟨_, h1, ⟨es3, clock3, by rw [heap_setBlock_same hb2, q1, q2], r3⟩, ⟨es1, clock1, es', clock', hb2, rfl⟩⟩
end
end Go.Proofs.YthbkjhacnnoolaaDoor
