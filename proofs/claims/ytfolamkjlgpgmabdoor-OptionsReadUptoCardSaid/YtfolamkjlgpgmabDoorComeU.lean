/- Several texts in one: ComeK, ComeU. No condition beyond those that each part names. -/
import Derived.Test.YtfolamkjlgpgmabDoorComeS
import Derived.Test.YtfolamkjlgpgmabDoorRefP
import Derived.Handed
import Derived.ProofKit
import Derived.Shelf.Vars
import Derived.Test.YtfolamkjlgpgmabDoorRows
/- What comes in: the parts of which options are made; the world's shape. No condition. (Printed by gComeK.py.) -/
namespace Go.Proofs.YtfolamkjlgpgmabDoor
open Go.RowKit Go.ChangeShapes Go.WideShapes
set_option linter.unusedVariables false
set_option linter.unusedSectionVars false
theorem piece_at {cs l : List Value} {o n j : Nat} {v : Value} (h : (cs.drop o).take n = l) (hj : l[j]? = some v) : cs[o + j]? = some v := by
  subst h
  rw [List.getElem?_take] at hj
  split at hj
  · rw [List.getElem?_drop] at hj; exact hj
  · cases hj
theorem agg_of {v : Value} {cs : List Value} (h : v.cells.toList = cs) (hn : 1 < cs.length) : v = .agg cs.toArray := by
  subst h
  cases v with
  | agg xs => simp [Value.cells]
  | _ => simp [Value.cells] at hn
variable {H : Type} {enc : TypeId × Value → H} {w : World}
theorem u32b : ∀ z, (Lit.int .u32 z).wf = true → 0 ≤ z ∧ z < (4294967296 : Nat) := fun z h => by have := bounds_u32 h; omega
theorem arr_come {t m : Nat} (hu : Tryd.prog.underlying t = some (.array m 5)) (hc : Tryd.prog.cellsOf t = m) {held : Bool} {fuel : Nat} {cs : List Value} {x : DataW H × List MemPlace} (h : DataW.trod enc Tryd.prog w 0 (fun _ => true) held fuel t cs = some x) : ∃ a : Nat → Nat, cs = (List.range m).map (fun i => .int .u8 (a i : Int)) ∧ ∀ j, j < m → a j < 256 := by
  obtain ⟨xs, k, _, _, hl, hx, hi⟩ := DataW.trod_array hu h
  have e1 : Tryd.prog.cellsOf 5 = 1 := by kernel_rfl
  rw [hc] at hl
  have each : ∀ i, ∃ n : Nat, i < m → n < 256 ∧ cs[i]? = some (.int .u8 (n : Int)) := fun i => by
    by_cases hlt : i < m
    · have := hi i hlt
      rw [e1, Nat.mul_one, List.getElem?_eq_getElem (by omega)] at this
      obtain ⟨n, h1, h2⟩ := int_come Tryd.underlying5 u8b this
      exact ⟨n, fun _ => ⟨h2, one_at h1⟩⟩
    · exact ⟨0, fun h => absurd h hlt⟩
  obtain ⟨a, ha⟩ := Classical.axiomOfChoice each
  refine ⟨a, ?_, fun j hj => (ha j hj).1⟩
  apply List.ext_getElem?
  intro i
  rcases Nat.lt_or_ge i m with hlt | hge
  · rw [(ha i hlt).2, List.getElem?_map, List.getElem?_range hlt]; rfl
  · rw [List.getElem?_eq_none (by omega), List.getElem?_eq_none (by simp; omega)]
theorem str_come {held : Bool} {fuel : Nat} {cs : List Value} {d : DataW H} {ps : List MemPlace} (h : DataW.trod enc Tryd.prog w 0 (fun _ => true) held fuel 9 cs = some (d, ps)) (hr : ∀ n ∈ d.weights Tryd.prog 9, n ≤ reachBytes) : ∃ s : ByteArray, cs = [.string s] ∧ s.size ≤ 140737488355328 := by
  obtain ⟨s, h1, h2, h3⟩ := DataW.trod_string Tryd.underlying9 h
  have hd : d = .lit (.string s.data.toList) := (Prod.mk.inj h2).1
  have := hr s.data.toList.length (by rw [hd]; simp [DataW.weights])
  simp only [reachBytes] at this
  refine ⟨s, h1, ?_⟩
  have e : s.data.toList.length = s.size := by simp
  omega
/-- cells of an element of a slice -/
theorem elem_cells {a : Addr} {k m : Nat} {cs : List Value} (h : w.cells? 0 (a.add (k * m)) m = some cs) {j : Nat} {v : Value} (hj : cs[j]? = some v) : w.cell? ((a.add (k * m)).add j) = some v := by
  have h4 := World.cells?_some h
  have hl := h4.1
  have hlj := (List.getElem?_eq_some_iff.1 hj).1
  rw [h4.2.2 j (by omega)]
  exact hj
theorem addr_plain0 {a : Addr} {m : Nat} {v : Value} (h : w.cell? ((a.add (0 * m)).add 0) = some v) : ∃ b o, a = ⟨b, o, none⟩ ∧ b < w.heap.size := addr_plain h
theorem adrs_come {held : Bool} {fuel : Nat} {cs : List Value} {d : DataW H} {ps : List MemPlace} (h : DataW.trod enc Tryd.prog w 0 (fun _ => true) held fuel 32 cs = some (d, ps)) (hr : ∀ n ∈ d.weights Tryd.prog 32, n ≤ reachBytes) :
    ∃ (A : Option Addr) (c : Nat) (L : List (Nat → Nat)), cs = [.slice A L.length c] ∧ (L ≠ [] → ∃ b o, A = some ⟨b, o, none⟩ ∧ b < w.heap.size ∧ ∀ i y, L[i]? = some y → ∀ j, j < 16 → w.cell? ⟨b, o + i * 16 + j, none⟩ = some (.int .u8 (y j : Int))) ∧ (∀ y ∈ L, ∀ j, j < 16 → y j < 256) ∧ L.length ≤ 140737488355328 := by
  rcases DataW.trod_slice Tryd.underlying32 h with ⟨h1, _⟩ | ⟨a, len, cap, elems, rest, n, _, h1, hx, hb, hle, hm, hlen, hel, hrest, _⟩
  · exact ⟨none, 0, [], h1, fun h => absurd rfl h, (by simp), by simp⟩
  · have e51 : Tryd.prog.cellsOf 25 = 16 := by kernel_rfl
    rw [e51] at hel
    have each : ∀ k, ∃ q : Nat → Nat, k < len → ∀ j, j < 16 → w.cell? ((a.add (k * 16)).add j) = some (.int .u8 (q j : Int)) ∧ q j < 256 := fun k => by
      by_cases hk : k < len
      · have := hel k hk
        rw [List.getElem?_eq_getElem (by omega), Option.bind_eq_some_iff] at this
        obtain ⟨cs, h2, h3⟩ := this
        obtain ⟨q, h4, h5⟩ := arr_come Tryd.underlying25 e51 h3
        refine ⟨q, fun _ j hj => ⟨elem_cells h2 ?_, h5 j hj⟩⟩
        rw [h4, List.getElem?_map, List.getElem?_range hj]; rfl
      · exact ⟨fun _ => 0, fun h => absurd h hk⟩
    obtain ⟨f, hf⟩ := Classical.axiomOfChoice each
    have hl : ((List.range len).map f).length = len := by simp
    refine ⟨some a, cap, (List.range len).map f, by rw [hl]; exact h1, fun hne => ?_, fun y hy => ?_, ?_⟩
    · have hp : 0 < len := by
        rcases Nat.eq_zero_or_pos len with h0 | h0
        · subst h0; exact absurd rfl hne
        · exact h0
      obtain ⟨b, o, rfl, hlt⟩ := addr_plain0 (hf 0 hp 0 (by decide)).1
      refine ⟨b, o, rfl, hlt, fun k y hy j hj => ?_⟩
      have hk : k < len := by have := (List.getElem?_eq_some_iff.1 hy).1; rwa [hl] at this
      rw [List.getElem?_map, List.getElem?_range hk] at hy
      simp only [Option.map_some, Option.some.injEq] at hy
      subst hy
      have := (hf k hk j hj).1
      rw [Addr.add_mid, Addr.add_mid] at this
      exact this
    · obtain ⟨k, hk, rfl⟩ := List.mem_map.1 hy
      exact fun j hj => (hf k (List.mem_range.1 hk) j hj).2
    · have hd : d = .slice (elems.map (·.1)) (rest.map (·.1)) := (Prod.mk.inj hx).1
      have hb5 : Tryd.prog.bytesOf 25 = 16 := by kernel_rfl
      have := hr ((elems.length + rest.length) * 16) (by rw [hd]; simp [DataW.weights, Tryd.underlying32, hb5])
      simp only [reachBytes] at this
      rw [hl]
      omega
theorem texts_come {held : Bool} {fuel : Nat} {cs : List Value} {d : DataW H} {ps : List MemPlace} (h : DataW.trod enc Tryd.prog w 0 (fun _ => true) held fuel 33 cs = some (d, ps)) (hr : ∀ n ∈ d.weights Tryd.prog 33, n ≤ reachBytes) :
    ∃ (A : Option Addr) (c : Nat) (L : List ByteArray), cs = [.slice A L.length c] ∧ (L ≠ [] → ∃ b o, A = some ⟨b, o, none⟩ ∧ b < w.heap.size ∧ ∀ i s, L[i]? = some s → w.cell? ⟨b, o + i, none⟩ = some (.string s)) ∧ (∀ s ∈ L, s.size ≤ 140737488355328) ∧ L.length ≤ 140737488355328 := by
  rcases DataW.trod_slice Tryd.underlying33 h with ⟨h1, _⟩ | ⟨a, len, cap, elems, rest, n, _, h1, hx, hb, hle, hm, hlen, hel, hrest, _⟩
  · exact ⟨none, 0, [], h1, fun h => absurd rfl h, (by simp), by simp⟩
  · have e9 : Tryd.prog.cellsOf 9 = 1 := by kernel_rfl
    rw [e9] at hel
    have hd : d = .slice (elems.map (·.1)) (rest.map (·.1)) := (Prod.mk.inj hx).1
    have each : ∀ k, ∃ q : ByteArray, k < len → w.cell? ((a.add (k * 1)).add 0) = some (.string q) ∧ q.size ≤ 140737488355328 := fun k => by
      by_cases hk : k < len
      · have := hel k hk
        rw [List.getElem?_eq_getElem (by omega), Option.bind_eq_some_iff] at this
        obtain ⟨cs, h2, h3⟩ := this
        generalize hek : elems[k] = ek at h3
        obtain ⟨dk, pk⟩ := ek
        obtain ⟨q, h4, h5⟩ := str_come h3 (fun n hn => hr n (by
          rw [hd]
          simp only [DataW.weights, Tryd.underlying33, List.mem_cons, List.mem_append]
          exact .inr (.inl (weights_all (j := k) (by rw [List.getElem?_map, List.getElem?_eq_getElem (by omega), hek]; rfl) n hn))))
        exact ⟨q, fun _ => ⟨elem_cells h2 (by rw [h4]; rfl), h5⟩⟩
      · exact ⟨⟨#[]⟩, fun h => absurd h hk⟩
    obtain ⟨f, hf⟩ := Classical.axiomOfChoice each
    have hl : ((List.range len).map f).length = len := by simp
    refine ⟨some a, cap, (List.range len).map f, by rw [hl]; exact h1, fun hne => ?_, fun y hy => ?_, ?_⟩
    · have hp : 0 < len := by
        rcases Nat.eq_zero_or_pos len with h0 | h0
        · subst h0; exact absurd rfl hne
        · exact h0
      obtain ⟨b, o, rfl, hlt⟩ := addr_plain0 (hf 0 hp).1
      refine ⟨b, o, rfl, hlt, fun k y hy => ?_⟩
      have hk : k < len := by have := (List.getElem?_eq_some_iff.1 hy).1; rwa [hl] at this
      rw [List.getElem?_map, List.getElem?_range hk] at hy
      simp only [Option.map_some, Option.some.injEq] at hy
      subst hy
      have := (hf k hk).1
      rw [Addr.add_mid, Addr.add_mid, Nat.mul_one, Nat.add_zero] at this
      exact this
    · obtain ⟨k, hk, rfl⟩ := List.mem_map.1 hy
      exact (hf k (List.mem_range.1 hk)).2
    · have hb5 : Tryd.prog.bytesOf 9 = 16 := by kernel_rfl
      have := hr ((elems.length + rest.length) * 16) (by rw [hd]; simp [DataW.weights, Tryd.underlying33, hb5])
      simp only [reachBytes] at this
      rw [hl]
      omega
theorem info_come {held : Bool} {fuel : Nat} {cs : List Value} {y : DataW H × List MemPlace} (h : DataW.trod enc Tryd.prog w 0 (fun _ => true) held fuel 30 cs = some y) :
    ∃ (x : Nat → Nat) (bits v p : Nat) (on auto : Bool), cs = [.int .u8 (x 0 : Int), .int .u8 (x 1 : Int), .int .u8 (x 2 : Int), .int .u8 (x 3 : Int), .int .u8 (x 4 : Int), .int .u8 (x 5 : Int), .int .u8 (x 6 : Int), .int .u8 (x 7 : Int), .int .u8 (x 8 : Int), .int .u8 (x 9 : Int), .int .u8 (x 10 : Int), .int .u8 (x 11 : Int), .int .u8 (x 12 : Int), .int .u8 (x 13 : Int), .int .u8 (x 14 : Int), .int .u8 (x 15 : Int), .int .u8 (bits : Int), .bool on, .bool auto, .int .u32 (v : Int), .int .u32 (p : Int)] ∧ v < 4294967296 ∧ p < 4294967296 ∧ (∀ j, j < 16 → x j < 256) ∧ bits < 256 := by
  obtain ⟨xs, n, _, hx, hlen, hl, hi⟩ := DataW.trod_struct Tryd.underlying30 h
  have e56 : Tryd.prog.cellsOf 30 = 21 := by kernel_rfl
  have e53 : Tryd.prog.cellsOf 27 = 17 := by kernel_rfl
  have e51 : Tryd.prog.cellsOf 25 = 16 := by kernel_rfl
  have e4 : Tryd.prog.cellsOf 4 = 1 := by kernel_rfl
  have e5 : Tryd.prog.cellsOf 5 = 1 := by kernel_rfl
  have e54 : Tryd.prog.cellsOf 28 = 1 := by kernel_rfl
  rw [e56] at hlen
  replace hl : xs.length = 5 := hl
  have h0 : DataW.trod enc Tryd.prog w 0 (fun _ => true) held n 27 ((cs.drop 0).take (Tryd.prog.cellsOf 27)) = xs[0]? := hi 0 _ rfl
  have h1 : DataW.trod enc Tryd.prog w 0 (fun _ => true) held n 4 ((cs.drop 17).take (Tryd.prog.cellsOf 4)) = xs[1]? := hi 1 _ rfl
  have h2 : DataW.trod enc Tryd.prog w 0 (fun _ => true) held n 4 ((cs.drop 18).take (Tryd.prog.cellsOf 4)) = xs[2]? := hi 2 _ rfl
  have h3 : DataW.trod enc Tryd.prog w 0 (fun _ => true) held n 28 ((cs.drop 19).take (Tryd.prog.cellsOf 28)) = xs[3]? := hi 3 _ rfl
  have h4 : DataW.trod enc Tryd.prog w 0 (fun _ => true) held n 28 ((cs.drop 20).take (Tryd.prog.cellsOf 28)) = xs[4]? := hi 4 _ rfl
  rw [List.getElem?_eq_getElem (by omega)] at h0 h1 h2 h3 h4
  rw [e53] at h0
  rw [e4] at h1 h2
  rw [e54] at h3 h4
  obtain ⟨on, k1, _⟩ := DataW.trod_bool Tryd.underlying4 h1
  obtain ⟨auto, k2, _⟩ := DataW.trod_bool Tryd.underlying4 h2
  obtain ⟨v, k3, hv⟩ := int_come Tryd.underlying28 u32b h3
  obtain ⟨p, k4, hp⟩ := int_come Tryd.underlying28 u32b h4
  obtain ⟨ys, m, _, hy, hleny, hly, hj⟩ := DataW.trod_struct Tryd.underlying27 h0
  replace hly : ys.length = 2 := hly
  have q0 : DataW.trod enc Tryd.prog w 0 (fun _ => true) held m 25 ((((cs.drop 0).take 17).drop 0).take (Tryd.prog.cellsOf 25)) = ys[0]? := hj 0 _ rfl
  have q1 : DataW.trod enc Tryd.prog w 0 (fun _ => true) held m 5 ((((cs.drop 0).take 17).drop 16).take (Tryd.prog.cellsOf 5)) = ys[1]? := hj 1 _ rfl
  rw [List.getElem?_eq_getElem (by omega)] at q0 q1
  rw [e51] at q0
  rw [e5] at q1
  obtain ⟨x, k5, hx256⟩ := arr_come Tryd.underlying25 e51 q0
  obtain ⟨bits, k6, hbits⟩ := int_come Tryd.underlying5 u8b q1
  have low : ∀ {j : Nat} {u : Value}, ((cs.drop 0).take 17)[j]? = some u → cs[j]? = some u := fun {j u} h => by
    have := piece_at (cs := cs) (o := 0) (n := 17) rfl h
    rwa [Nat.zero_add] at this
  refine ⟨x, bits, v, p, on, auto, ?_, hv, hp, hx256, hbits⟩
  have g0 : cs[0]? = some (.int .u8 (x 0 : Int)) := low (piece_at (o := 0) (j := 0) k5 rfl)
  have g1 : cs[1]? = some (.int .u8 (x 1 : Int)) := low (piece_at (o := 0) (j := 1) k5 rfl)
  have g2 : cs[2]? = some (.int .u8 (x 2 : Int)) := low (piece_at (o := 0) (j := 2) k5 rfl)
  have g3 : cs[3]? = some (.int .u8 (x 3 : Int)) := low (piece_at (o := 0) (j := 3) k5 rfl)
  have g4 : cs[4]? = some (.int .u8 (x 4 : Int)) := low (piece_at (o := 0) (j := 4) k5 rfl)
  have g5 : cs[5]? = some (.int .u8 (x 5 : Int)) := low (piece_at (o := 0) (j := 5) k5 rfl)
  have g6 : cs[6]? = some (.int .u8 (x 6 : Int)) := low (piece_at (o := 0) (j := 6) k5 rfl)
  have g7 : cs[7]? = some (.int .u8 (x 7 : Int)) := low (piece_at (o := 0) (j := 7) k5 rfl)
  have g8 : cs[8]? = some (.int .u8 (x 8 : Int)) := low (piece_at (o := 0) (j := 8) k5 rfl)
  have g9 : cs[9]? = some (.int .u8 (x 9 : Int)) := low (piece_at (o := 0) (j := 9) k5 rfl)
  have g10 : cs[10]? = some (.int .u8 (x 10 : Int)) := low (piece_at (o := 0) (j := 10) k5 rfl)
  have g11 : cs[11]? = some (.int .u8 (x 11 : Int)) := low (piece_at (o := 0) (j := 11) k5 rfl)
  have g12 : cs[12]? = some (.int .u8 (x 12 : Int)) := low (piece_at (o := 0) (j := 12) k5 rfl)
  have g13 : cs[13]? = some (.int .u8 (x 13 : Int)) := low (piece_at (o := 0) (j := 13) k5 rfl)
  have g14 : cs[14]? = some (.int .u8 (x 14 : Int)) := low (piece_at (o := 0) (j := 14) k5 rfl)
  have g15 : cs[15]? = some (.int .u8 (x 15 : Int)) := low (piece_at (o := 0) (j := 15) k5 rfl)
  have g16 : cs[16]? = some (.int .u8 (bits : Int)) := low (piece_at (o := 16) (j := 0) k6 rfl)
  have g17 : cs[17]? = some (.bool on) := piece_at (o := 17) (j := 0) k1 rfl
  have g18 : cs[18]? = some (.bool auto) := piece_at (o := 18) (j := 0) k2 rfl
  have g19 : cs[19]? = some (.int .u32 (v : Int)) := piece_at (o := 19) (j := 0) k3 rfl
  have g20 : cs[20]? = some (.int .u32 (p : Int)) := piece_at (o := 20) (j := 0) k4 rfl
  apply List.ext_getElem?
  intro i
  match i with
  | 0 => exact g0
  | 1 => exact g1
  | 2 => exact g2
  | 3 => exact g3
  | 4 => exact g4
  | 5 => exact g5
  | 6 => exact g6
  | 7 => exact g7
  | 8 => exact g8
  | 9 => exact g9
  | 10 => exact g10
  | 11 => exact g11
  | 12 => exact g12
  | 13 => exact g13
  | 14 => exact g14
  | 15 => exact g15
  | 16 => exact g16
  | 17 => exact g17
  | 18 => exact g18
  | 19 => exact g19
  | 20 => exact g20
  | i + 21 => rw [List.getElem?_eq_none (by omega), List.getElem?_eq_none (by simp)]
/-- the parts that come in -/
theorem parts_come {held : Bool} {fuel : Nat} {cs : List Value} {d : DataW H} {ps : List MemPlace} (h : DataW.trod enc Tryd.prog w 0 (fun _ => true) held fuel 35 cs = some (d, ps)) (hr : ∀ n ∈ d.weights Tryd.prog 35, n ≤ reachBytes) :
    ∃ (kd bits v p n bC sC dC : Nat) (m x q : Nat → Nat) (on auto : Bool) (bA sA dA : Option Addr) (B : List Nat) (S : List (Nat → Nat)) (D : List ByteArray), cs = [.int .u8 (kd : Int), .int .u8 (m 0 : Int), .int .u8 (m 1 : Int), .int .u8 (m 2 : Int), .int .u8 (m 3 : Int), .int .u8 (m 4 : Int), .int .u8 (m 5 : Int), .int .u8 (x 0 : Int), .int .u8 (x 1 : Int), .int .u8 (x 2 : Int), .int .u8 (x 3 : Int), .int .u8 (x 4 : Int), .int .u8 (x 5 : Int), .int .u8 (x 6 : Int), .int .u8 (x 7 : Int), .int .u8 (x 8 : Int), .int .u8 (x 9 : Int), .int .u8 (x 10 : Int), .int .u8 (x 11 : Int), .int .u8 (x 12 : Int), .int .u8 (x 13 : Int), .int .u8 (x 14 : Int), .int .u8 (x 15 : Int), .int .u8 (bits : Int), .bool on, .bool auto, .int .u32 (v : Int), .int .u32 (p : Int), .slice bA B.length bC, .int .u32 (n : Int), .int .u8 (q 0 : Int), .int .u8 (q 1 : Int), .int .u8 (q 2 : Int), .int .u8 (q 3 : Int), .int .u8 (q 4 : Int), .int .u8 (q 5 : Int), .slice sA S.length sC, .slice dA D.length dC] ∧ v < 4294967296 ∧ p < 4294967296 ∧ n < 4294967296 ∧
      Bs w w.heap.size bA bC B ∧ B.length ≤ 140737488355328 ∧
      (S ≠ [] → ∃ b o, sA = some ⟨b, o, none⟩ ∧ b < w.heap.size ∧ ∀ i y, S[i]? = some y → ∀ j, j < 16 → w.cell? ⟨b, o + i * 16 + j, none⟩ = some (.int .u8 (y j : Int))) ∧ S.length ≤ 140737488355328 ∧ (∀ y ∈ S, ∀ j, j < 16 → y j < 256) ∧
      (D ≠ [] → ∃ b o, dA = some ⟨b, o, none⟩ ∧ b < w.heap.size ∧ ∀ i s, D[i]? = some s → w.cell? ⟨b, o + i, none⟩ = some (.string s)) ∧ D.length ≤ 140737488355328 ∧ (∀ s ∈ D, s.size ≤ 140737488355328) ∧ (∀ j, j < 6 → m j < 256) ∧ (∀ j, j < 16 → x j < 256) ∧ bits < 256 := by
  obtain ⟨xs, k, _, hx, hlen, hl, hi⟩ := DataW.trod_struct Tryd.underlying35 h
  have hd : d = .agg (xs.map (·.1)) := (Prod.mk.inj hx).1
  have e60 : Tryd.prog.cellsOf 35 = 38 := by kernel_rfl
  rw [e60] at hlen
  replace hl : xs.length = 8 := hl
  have e5 : Tryd.prog.cellsOf 5 = 1 := by kernel_rfl
  have e49 : Tryd.prog.cellsOf 23 = 6 := by kernel_rfl
  have e56 : Tryd.prog.cellsOf 30 = 21 := by kernel_rfl
  have e22 : Tryd.prog.cellsOf 31 = 1 := by kernel_rfl
  have e54 : Tryd.prog.cellsOf 28 = 1 := by kernel_rfl
  have e48 : Tryd.prog.cellsOf 22 = 6 := by kernel_rfl
  have e57 : Tryd.prog.cellsOf 32 = 1 := by kernel_rfl
  have e58 : Tryd.prog.cellsOf 33 = 1 := by kernel_rfl
  have h0 : DataW.trod enc Tryd.prog w 0 (fun _ => true) held k 5 ((cs.drop 0).take (Tryd.prog.cellsOf 5)) = xs[0]? := hi 0 _ rfl
  have h1 : DataW.trod enc Tryd.prog w 0 (fun _ => true) held k 23 ((cs.drop 1).take (Tryd.prog.cellsOf 23)) = xs[1]? := hi 1 _ rfl
  have h2 : DataW.trod enc Tryd.prog w 0 (fun _ => true) held k 30 ((cs.drop 7).take (Tryd.prog.cellsOf 30)) = xs[2]? := hi 2 _ rfl
  have h3 : DataW.trod enc Tryd.prog w 0 (fun _ => true) held k 31 ((cs.drop 28).take (Tryd.prog.cellsOf 31)) = xs[3]? := hi 3 _ rfl
  have h4 : DataW.trod enc Tryd.prog w 0 (fun _ => true) held k 28 ((cs.drop 29).take (Tryd.prog.cellsOf 28)) = xs[4]? := hi 4 _ rfl
  have h5 : DataW.trod enc Tryd.prog w 0 (fun _ => true) held k 22 ((cs.drop 30).take (Tryd.prog.cellsOf 22)) = xs[5]? := hi 5 _ rfl
  have h6 : DataW.trod enc Tryd.prog w 0 (fun _ => true) held k 32 ((cs.drop 36).take (Tryd.prog.cellsOf 32)) = xs[6]? := hi 6 _ rfl
  have h7 : DataW.trod enc Tryd.prog w 0 (fun _ => true) held k 33 ((cs.drop 37).take (Tryd.prog.cellsOf 33)) = xs[7]? := hi 7 _ rfl
  rw [List.getElem?_eq_getElem (by omega)] at h0 h1 h2 h3 h4 h5 h6 h7
  rw [e5] at h0
  rw [e49] at h1
  rw [e56] at h2
  rw [e22] at h3
  rw [e54] at h4
  rw [e48] at h5
  rw [e57] at h6
  rw [e58] at h7
  generalize hx3 : xs[3] = x3 at h3
  obtain ⟨d3, p3⟩ := x3
  have hw3 : ∀ n ∈ d3.weights Tryd.prog 31, n ≤ reachBytes := fun n hn => hr n (by
    rw [hd]
    simp only [DataW.weights, Tryd.underlying35]
    exact DataW.weights_mem_each (j := 3) (t := 31) (d := d3) rfl (by rw [List.getElem?_map, List.getElem?_eq_getElem (by omega), hx3]; rfl) n hn)
  generalize hx6 : xs[6] = x6 at h6
  obtain ⟨d6, p6⟩ := x6
  have hw6 : ∀ n ∈ d6.weights Tryd.prog 32, n ≤ reachBytes := fun n hn => hr n (by
    rw [hd]
    simp only [DataW.weights, Tryd.underlying35]
    exact DataW.weights_mem_each (j := 6) (t := 32) (d := d6) rfl (by rw [List.getElem?_map, List.getElem?_eq_getElem (by omega), hx6]; rfl) n hn)
  generalize hx7 : xs[7] = x7 at h7
  obtain ⟨d7, p7⟩ := x7
  have hw7 : ∀ n ∈ d7.weights Tryd.prog 33, n ≤ reachBytes := fun n hn => hr n (by
    rw [hd]
    simp only [DataW.weights, Tryd.underlying35]
    exact DataW.weights_mem_each (j := 7) (t := 33) (d := d7) rfl (by rw [List.getElem?_map, List.getElem?_eq_getElem (by omega), hx7]; rfl) n hn)
  obtain ⟨kd, k0, _⟩ := int_come Tryd.underlying5 u8b h0
  obtain ⟨m, k1, hm256⟩ := arr_come Tryd.underlying23 e49 h1
  obtain ⟨x, bits, v, p, on, auto, k2, hv, hp, hx256, hbits⟩ := info_come h2
  obtain ⟨bA, bC, B, k3, hB, _, hbc⟩ := bytes_come h3 hw3
  obtain ⟨n, k4, hn⟩ := int_come Tryd.underlying28 u32b h4
  obtain ⟨q, k5, _⟩ := arr_come Tryd.underlying22 e48 h5
  obtain ⟨sA, sC, S, k6, hS, hs256, hsl⟩ := adrs_come h6 hw6
  obtain ⟨dA, dC, D, k7, hD, hdz, hdl⟩ := texts_come h7 hw7
  refine ⟨kd, bits, v, p, n, bC, sC, dC, m, x, q, on, auto, bA, sA, dA, B, S, D, ?_, hv, hp, hn, hB, by have := hB.cap; omega, hS, hsl, hs256, hD, hdl, hdz, hm256, hx256, hbits⟩
  have g0 : cs[0]? = some (.int .u8 (kd : Int)) := piece_at (o := 0) (j := 0) k0 rfl
  have g1 : cs[1]? = some (.int .u8 (m 0 : Int)) := piece_at (o := 1) (j := 0) k1 rfl
  have g2 : cs[2]? = some (.int .u8 (m 1 : Int)) := piece_at (o := 1) (j := 1) k1 rfl
  have g3 : cs[3]? = some (.int .u8 (m 2 : Int)) := piece_at (o := 1) (j := 2) k1 rfl
  have g4 : cs[4]? = some (.int .u8 (m 3 : Int)) := piece_at (o := 1) (j := 3) k1 rfl
  have g5 : cs[5]? = some (.int .u8 (m 4 : Int)) := piece_at (o := 1) (j := 4) k1 rfl
  have g6 : cs[6]? = some (.int .u8 (m 5 : Int)) := piece_at (o := 1) (j := 5) k1 rfl
  have g7 : cs[7]? = some (.int .u8 (x 0 : Int)) := piece_at (o := 7) (j := 0) k2 rfl
  have g8 : cs[8]? = some (.int .u8 (x 1 : Int)) := piece_at (o := 7) (j := 1) k2 rfl
  have g9 : cs[9]? = some (.int .u8 (x 2 : Int)) := piece_at (o := 7) (j := 2) k2 rfl
  have g10 : cs[10]? = some (.int .u8 (x 3 : Int)) := piece_at (o := 7) (j := 3) k2 rfl
  have g11 : cs[11]? = some (.int .u8 (x 4 : Int)) := piece_at (o := 7) (j := 4) k2 rfl
  have g12 : cs[12]? = some (.int .u8 (x 5 : Int)) := piece_at (o := 7) (j := 5) k2 rfl
  have g13 : cs[13]? = some (.int .u8 (x 6 : Int)) := piece_at (o := 7) (j := 6) k2 rfl
  have g14 : cs[14]? = some (.int .u8 (x 7 : Int)) := piece_at (o := 7) (j := 7) k2 rfl
  have g15 : cs[15]? = some (.int .u8 (x 8 : Int)) := piece_at (o := 7) (j := 8) k2 rfl
  have g16 : cs[16]? = some (.int .u8 (x 9 : Int)) := piece_at (o := 7) (j := 9) k2 rfl
  have g17 : cs[17]? = some (.int .u8 (x 10 : Int)) := piece_at (o := 7) (j := 10) k2 rfl
  have g18 : cs[18]? = some (.int .u8 (x 11 : Int)) := piece_at (o := 7) (j := 11) k2 rfl
  have g19 : cs[19]? = some (.int .u8 (x 12 : Int)) := piece_at (o := 7) (j := 12) k2 rfl
  have g20 : cs[20]? = some (.int .u8 (x 13 : Int)) := piece_at (o := 7) (j := 13) k2 rfl
  have g21 : cs[21]? = some (.int .u8 (x 14 : Int)) := piece_at (o := 7) (j := 14) k2 rfl
  have g22 : cs[22]? = some (.int .u8 (x 15 : Int)) := piece_at (o := 7) (j := 15) k2 rfl
  have g23 : cs[23]? = some (.int .u8 (bits : Int)) := piece_at (o := 7) (j := 16) k2 rfl
  have g24 : cs[24]? = some (.bool on) := piece_at (o := 7) (j := 17) k2 rfl
  have g25 : cs[25]? = some (.bool auto) := piece_at (o := 7) (j := 18) k2 rfl
  have g26 : cs[26]? = some (.int .u32 (v : Int)) := piece_at (o := 7) (j := 19) k2 rfl
  have g27 : cs[27]? = some (.int .u32 (p : Int)) := piece_at (o := 7) (j := 20) k2 rfl
  have g28 : cs[28]? = some (.slice bA B.length bC) := piece_at (o := 28) (j := 0) k3 rfl
  have g29 : cs[29]? = some (.int .u32 (n : Int)) := piece_at (o := 29) (j := 0) k4 rfl
  have g30 : cs[30]? = some (.int .u8 (q 0 : Int)) := piece_at (o := 30) (j := 0) k5 rfl
  have g31 : cs[31]? = some (.int .u8 (q 1 : Int)) := piece_at (o := 30) (j := 1) k5 rfl
  have g32 : cs[32]? = some (.int .u8 (q 2 : Int)) := piece_at (o := 30) (j := 2) k5 rfl
  have g33 : cs[33]? = some (.int .u8 (q 3 : Int)) := piece_at (o := 30) (j := 3) k5 rfl
  have g34 : cs[34]? = some (.int .u8 (q 4 : Int)) := piece_at (o := 30) (j := 4) k5 rfl
  have g35 : cs[35]? = some (.int .u8 (q 5 : Int)) := piece_at (o := 30) (j := 5) k5 rfl
  have g36 : cs[36]? = some (.slice sA S.length sC) := piece_at (o := 36) (j := 0) k6 rfl
  have g37 : cs[37]? = some (.slice dA D.length dC) := piece_at (o := 37) (j := 0) k7 rfl
  apply List.ext_getElem?
  intro i
  match i with
  | 0 => exact g0
  | 1 => exact g1
  | 2 => exact g2
  | 3 => exact g3
  | 4 => exact g4
  | 5 => exact g5
  | 6 => exact g6
  | 7 => exact g7
  | 8 => exact g8
  | 9 => exact g9
  | 10 => exact g10
  | 11 => exact g11
  | 12 => exact g12
  | 13 => exact g13
  | 14 => exact g14
  | 15 => exact g15
  | 16 => exact g16
  | 17 => exact g17
  | 18 => exact g18
  | 19 => exact g19
  | 20 => exact g20
  | 21 => exact g21
  | 22 => exact g22
  | 23 => exact g23
  | 24 => exact g24
  | 25 => exact g25
  | 26 => exact g26
  | 27 => exact g27
  | 28 => exact g28
  | 29 => exact g29
  | 30 => exact g30
  | 31 => exact g31
  | 32 => exact g32
  | 33 => exact g33
  | 34 => exact g34
  | 35 => exact g35
  | 36 => exact g36
  | 37 => exact g37
  | i + 38 => rw [List.getElem?_eq_none (by omega), List.getElem?_eq_none (by simp)]
/-- the wrap of a row with laid variables, the world's shape and the form's reach kept -/
theorem returns_and_both {a : Assume} {C : Checked} {os : Os} {f : FuncId} {fn : Func} {s : ChangeSpec} {conds : List PathCond} {apart fresh handsOn again : Bool} {X : World → Array Value → Prop}
    (hX : ∀ (w w' : World) (args : Array Value), w.heap = w'.heap → X w args → X w' args)
    (own : ownKnob C.prog.godebug = none) (started : os.Started) (noInit : C.prog.inits.idxOf? f = none) (hfn : C.prog.funcs[f]? = some fn)
    (witness : ∃ (w : World) (tape : Tape) (i : Input), w.os = os ∧ (w.forCall tape i).Shaped C.prog ∧ i.vars = [] ∧ Input.okWide C.prog (w.forCall tape i) .any w.heap.size f i ∧
      ((s.pre enc C.prog fn conds apart (w.forCall tape i).memory i.args ∧ X (w.forCall tape i).memory i.args) ∧ sizedMet enc C.prog fn (OpenSpec.ofChange s) apart (w.forCall tape i).memory i.args) ∧ a.holds C.prog (lone (Frame.enter C.prog f i.args .normal) [] (w.forCall tape i)))
    (contract : ∀ (W : World) (base : Nat) (args : Array Value) (ds gs : List (DataW H)) (before : List MemPlace),
      (∀ (j : Nat) t v, fn.params[j]? = some t → args[j]? = some v → Value.okWide C.prog W .any base t v) →
      DataW.Whole enc C.prog fn.params.toList s.vars apart W args.toList ds gs before →
      (DataW.weightsEach C.prog (fn.params.toList ++ s.plain.varTypes C.prog) (ds ++ gs)).all (· ≤ reachBytes) = true → X W args → W.ShapedOpen C.prog →
      Calls C.prog f args W fun e W' => ∃ v, e = .returned v ∧ s.post enc C.prog fn apart fresh handsOn again W args v W') :
    ReturnsInHanded a C os f .any (fun w args => (s.pre enc C.prog fn conds apart w args ∧ X w args) ∧ sizedMet enc C.prog fn (OpenSpec.ofChange s) apart w args) (s.post enc C.prog fn apart fresh handsOn again) := by
  refine returnsInHanded_of_calls own started noInit witness fun w tape i _ hsh _ hok hpre _ => ?_
  obtain ⟨_, _, _, fn', hfn', _, _, _, _, hval⟩ := hok
  obtain rfl : fn' = fn := Option.some.inj (hfn'.symm.trans hfn)
  obtain ⟨⟨⟨ds, gs, before, hw, _⟩, hx⟩, hz⟩ := hpre
  refine (contract (w.forCall tape i) w.heap.size i.args ds gs before hval (DataW.Whole.of_heap (w' := w.forCall tape i) (by rfl) hw) (hz.weights hw) (hX _ _ _ (by rfl) hx) hsh).mono fun e W' ⟨v, he, hp⟩ => ?_
  subst he
  exact ChangeSpec.post_blind hp
theorem mx_of_shaped {w : World} (hs : w.ShapedOpen Tryd.prog) : ∃ m : Int, w.cell? ⟨0, 0, none⟩ = some (.int .i64 m) :=
  cell_of_shapedOpen_int (P := Tryd.prog) (g := 0) (t := 3) (zero := #[.int .i64 0]) hs (of_decide_eq_true (by kernel_rfl)) (by kernel_rfl) rfl (by kernel_rfl) (by kernel_rfl) Tryd.underlying3
end Go.Proofs.YtfolamkjlgpgmabDoor

/- What the bulk of the parts that come in says of their lists: no longer than it. No condition. -/
namespace Go.Proofs.YtfolamkjlgpgmabDoor
open Go.RowKit Go.ChangeShapes Go.WideShapes
set_option linter.unusedVariables false
set_option linter.unusedSectionVars false
variable {H : Type} {enc : TypeId × Value → H} {w : World}
theorem bulk_pos (d : DataW H) : 1 ≤ Rows.uptoBulk d := by
  cases d with
  | lit l => cases l <;> simp only [Rows.uptoBulk] <;> omega
  | _ => simp only [Rows.uptoBulk] <;> omega
theorem bulk_mem : ∀ (ds : List (DataW H)) (j : Nat) (d : DataW H), ds[j]? = some d → Rows.uptoBulk d ≤ Rows.uptoBulkAll ds := by
  intro ds
  induction ds with
  | nil => intro j d h; simp at h
  | cons x r ih =>
    intro j d h
    simp only [Rows.uptoBulkAll]
    match j with
    | 0 =>
      simp only [List.getElem?_cons_zero, Option.some.injEq] at h
      subst h
      omega
    | j + 1 =>
      rw [List.getElem?_cons_succ] at h
      have := ih j d h
      omega
theorem bulk_len : ∀ (ds : List (DataW H)), ds.length ≤ Rows.uptoBulkAll ds := by
  intro ds
  induction ds with
  | nil => simp [Rows.uptoBulkAll]
  | cons x r ih =>
    simp only [Rows.uptoBulkAll, List.length_cons]
    have := bulk_pos x
    omega
theorem slice_bulk {t e : TypeId} (hu : Tryd.prog.underlying t = some (.slice e)) {held : Bool} {fuel : Nat} {A : Option Addr} {n c : Nat} {d : DataW H} {ps : List MemPlace} (h : DataW.trod enc Tryd.prog w 0 (fun _ => true) held fuel t [.slice A n c] = some (d, ps)) : n ≤ Rows.uptoBulk d := by
  rcases DataW.trod_slice hu h with ⟨h1, _⟩ | ⟨a, len, cap, elems, rest, k, _, h1, hx, hb, hle, hm, hlen, hel, hrest, _⟩
  · simp only [List.cons.injEq, Value.slice.injEq] at h1
    omega
  · simp only [List.cons.injEq, Value.slice.injEq] at h1
    have hd : d = .slice (elems.map (·.1)) (rest.map (·.1)) := (Prod.mk.inj hx).1
    rw [hd]
    simp only [Rows.uptoBulk]
    have := bulk_len (elems.map (·.1))
    rw [List.length_map] at this
    omega
theorem texts_bulk {held : Bool} {fuel : Nat} {b o n c : Nat} {d : DataW H} {ps : List MemPlace} (h : DataW.trod enc Tryd.prog w 0 (fun _ => true) held fuel 33 [.slice (some ⟨b, o, none⟩) n c] = some (d, ps)) (i : Nat) (s : ByteArray) (hi : i < n) (hs : w.cell? ⟨b, o + i, none⟩ = some (.string s)) : s.size ≤ Rows.uptoBulk d := by
  rcases DataW.trod_slice Tryd.underlying33 h with ⟨h1, _⟩ | ⟨a, len, cap, elems, rest, k, _, h1, hx, hb, hle, hm, hlen, hel, hrest, _⟩
  · simp at h1
  · simp only [List.cons.injEq, Value.slice.injEq, Option.some.injEq] at h1
    obtain ⟨⟨rfl, rfl, _⟩, _⟩ := h1
    have hd : d = .slice (elems.map (·.1)) (rest.map (·.1)) := (Prod.mk.inj hx).1
    have e9 : Tryd.prog.cellsOf 9 = 1 := by kernel_rfl
    rw [e9] at hel
    have := hel i hi
    rw [List.getElem?_eq_getElem (by omega), Option.bind_eq_some_iff] at this
    obtain ⟨cs, h2, h3⟩ := this
    generalize hek : elems[i] = ek at h3
    obtain ⟨dk, pk⟩ := ek
    obtain ⟨s', h4, h5, _⟩ := DataW.trod_string Tryd.underlying9 h3
    have h6 := elem_cells h2 (j := 0) (by rw [h4]; rfl)
    rw [Addr.add_mid, Addr.add_mid, Nat.mul_one, Nat.add_zero] at h6
    rw [hs] at h6
    simp only [Option.some.injEq, Value.string.injEq] at h6
    subst h6
    have h7 : dk = .lit (.string s.data.toList) := (Prod.mk.inj h5).1
    have h8 : Rows.uptoBulk dk ≤ Rows.uptoBulkAll (elems.map (·.1)) := bulk_mem _ i dk (by rw [List.getElem?_map, List.getElem?_eq_getElem (by omega), hek]; rfl)
    rw [hd]
    simp only [Rows.uptoBulk]
    rw [h7] at h8
    simp only [Rows.uptoBulk] at h8
    have e : s.data.toList.length = s.size := by simp
    omega
theorem bool_in {P : Program} {W : World} {base : Nat} {ts : Array TypeId} {args : Array Value} (h : ∀ (j : Nat) t v, ts[j]? = some t → args[j]? = some v → Value.okWide P W .any base t v) (j : Nat) (t : TypeId) (v : Value) (h1 : ts[j]? = some t) (h2 : args[j]? = some v) (ht : P.underlying t = some .bool) {held : Bool} {d : DataW H} {p : List MemPlace} (hd : DataW.Trod enc P W 0 (fun _ => true) held t v d p) : ∃ b : Bool, v = .bool b := by
  obtain ⟨b, rfl, -, -⟩ := open_bool ht (h j t v h1 h2) hd
  exact ⟨b, rfl⟩
/-- the two lists of the parts that come in -/
theorem parts_bulk {held : Bool} {fuel : Nat} {cs : List Value} {d : DataW H} {ps : List MemPlace} (h : DataW.trod enc Tryd.prog w 0 (fun _ => true) held fuel 35 cs = some (d, ps)) {sA dA : Option Addr} {ns sC nd dC : Nat} (h36 : cs[36]? = some (.slice sA ns sC)) (h37 : cs[37]? = some (.slice dA nd dC)) :
    ns ≤ Rows.uptoBulk d ∧ nd ≤ Rows.uptoBulk d ∧ (∀ b o, dA = some ⟨b, o, none⟩ → ∀ i s, i < nd → w.cell? ⟨b, o + i, none⟩ = some (.string s) → s.size ≤ Rows.uptoBulk d) := by
  obtain ⟨xs, k, _, hx, hlen, hl, hi⟩ := DataW.trod_struct Tryd.underlying35 h
  have hd : d = .agg (xs.map (·.1)) := (Prod.mk.inj hx).1
  have e60 : Tryd.prog.cellsOf 35 = 38 := by kernel_rfl
  rw [e60] at hlen
  replace hl : xs.length = 8 := hl
  have e57 : Tryd.prog.cellsOf 32 = 1 := by kernel_rfl
  have e58 : Tryd.prog.cellsOf 33 = 1 := by kernel_rfl
  have h6 : DataW.trod enc Tryd.prog w 0 (fun _ => true) held k 32 ((cs.drop 36).take (Tryd.prog.cellsOf 32)) = xs[6]? := hi 6 _ rfl
  have h7 : DataW.trod enc Tryd.prog w 0 (fun _ => true) held k 33 ((cs.drop 37).take (Tryd.prog.cellsOf 33)) = xs[7]? := hi 7 _ rfl
  have c6 : (cs.drop 36).take 1 = [.slice sA ns sC] := by
    apply List.ext_getElem?
    intro i
    match i with
    | 0 => simpa using h36
    | i + 1 => rw [List.getElem?_eq_none (by simp; omega), List.getElem?_eq_none (by simp)]
  have c7 : (cs.drop 37).take 1 = [.slice dA nd dC] := by
    apply List.ext_getElem?
    intro i
    match i with
    | 0 => simpa using h37
    | i + 1 => rw [List.getElem?_eq_none (by simp; omega), List.getElem?_eq_none (by simp)]
  rw [e57, c6, List.getElem?_eq_getElem (by omega)] at h6
  rw [e58, c7, List.getElem?_eq_getElem (by omega)] at h7
  generalize hx6 : xs[6] = x6 at h6
  obtain ⟨d6, p6⟩ := x6
  generalize hx7 : xs[7] = x7 at h7
  obtain ⟨d7, p7⟩ := x7
  have b6 : Rows.uptoBulk d6 ≤ Rows.uptoBulkAll (xs.map (·.1)) := bulk_mem _ 6 d6 (by rw [List.getElem?_map, List.getElem?_eq_getElem (by omega), hx6]; rfl)
  have b7 : Rows.uptoBulk d7 ≤ Rows.uptoBulkAll (xs.map (·.1)) := bulk_mem _ 7 d7 (by rw [List.getElem?_map, List.getElem?_eq_getElem (by omega), hx7]; rfl)
  have bd : Rows.uptoBulk d = Rows.uptoBulkAll (xs.map (·.1)) + 1 := by rw [hd]; simp only [Rows.uptoBulk]
  have l6 := slice_bulk Tryd.underlying32 h6
  have l7 := slice_bulk Tryd.underlying33 h7
  refine ⟨by omega, by omega, fun b o e i s hlt hs => ?_⟩
  subst e
  have := texts_bulk h7 i s hlt hs
  omega
end Go.Proofs.YtfolamkjlgpgmabDoor
