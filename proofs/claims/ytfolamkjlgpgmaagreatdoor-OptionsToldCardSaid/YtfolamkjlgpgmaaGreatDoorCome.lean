/- What comes in: options, of any number, with the form's reach. No condition. -/
import Derived.Test.YtfolamkjlgpgmaaGreatDoorCats
import Derived.Test.YtfolamkjlgpgmaaGreatDoorRows
import Derived.OpenShut
import Derived.SizedLaws
namespace Go.Proofs.YtfolamkjlgpgmaaGreatDoor
open Go.RowKit Go.ChangeShapes Go.WideShapes
set_option linter.unusedVariables false
theorem cell_ofC {w : World} {a : Addr} {v : Value} (h : w.cell? a = some v) : ∃ c t z, w.heap[a.block]? = some (.cells c t z) ∧ a.spot = none ∧ c[a.off]? = some v := by
  unfold World.cell? at h
  split at h
  · rename_i c t z hb
    split at h
    · cases h
    · rename_i hs
      exact ⟨c, t, z, hb, by cases hq : a.spot with
        | none => rfl
        | some x => rw [hq] at hs; exact absurd rfl hs, h⟩
  · cases h
theorem one_at {cs : List Value} {k : Nat} {v : Value} (h : (cs.drop k).take 1 = [v]) : cs[k]? = some v := by
  have := congrArg (·[0]?) h
  simpa [List.getElem?_take] using this
variable {H : Type} {enc : TypeId × Value → H} {w : World}
theorem int_come {P : Program} {t : TypeId} {k : IntKind} {held : Bool} {fuel : Nat} {cs : List Value} {x : DataW H × List MemPlace} {M : Nat} (hu : P.underlying t = some (.int k)) (hb : ∀ z, (Lit.int k z).wf = true → 0 ≤ z ∧ z < M) (h : DataW.trod enc P w 0 (fun _ => true) held fuel t cs = some x) : ∃ n : Nat, cs = [.int k (n : Int)] ∧ n < M := by
  obtain ⟨z, h1, _, h2⟩ := DataW.trod_int hu h
  obtain ⟨n, e, hn⟩ := nat_of (hb z h2)
  exact ⟨n, by rw [h1, e], hn⟩
theorem u8b : ∀ z, (Lit.int .u8 z).wf = true → 0 ≤ z ∧ z < (256 : Nat) := fun z h => by have := bounds_u8 h; omega
theorem u16b : ∀ z, (Lit.int .u16 z).wf = true → 0 ≤ z ∧ z < (65536 : Nat) := fun z h => by have := bounds_u16 h; omega
theorem addr_plain {a : Addr} {m : Nat} {v : Value} (h : w.cell? ((a.add (0 * m)).add 0) = some v) : ∃ b o, a = ⟨b, o, none⟩ ∧ b < w.heap.size := by
  obtain ⟨c, t, z, q1, q2, _⟩ := cell_ofC h
  have sp : a.spot = none := by
    cases hq : a.spot with
    | none => rfl
    | some y => rw [show ((a.add (0 * m)).add 0).spot = a.spot by unfold Addr.add; split <;> (try split) <;> simp_all] at q2; exact hq.symm.trans q2
  obtain ⟨b, off, spot⟩ := a
  simp only at sp
  subst sp
  refine ⟨b, off, rfl, ?_⟩
  rw [Addr.add_mid, Addr.add_mid] at q1
  exact lt_of_blk q1
/-- a slice of bytes that comes in, and its reach -/
theorem bytes_come {held : Bool} {fuel : Nat} {cs : List Value} {d : DataW H} {ps : List MemPlace} (h : DataW.trod enc Tryz.prog w 0 (fun _ => true) held fuel 22 cs = some (d, ps)) (hr : ∀ n ∈ d.weights Tryz.prog 22, n ≤ reachBytes) :
    ∃ (A : Option Addr) (c : Nat) (l : List Nat), cs = [.slice A l.length c] ∧ Bs w w.heap.size A c l ∧ (∀ y ∈ l, y < 256) ∧ c ≤ 140737488351232 := by
  rcases DataW.trod_slice Tryz.underlying22 h with ⟨h1, _⟩ | ⟨a, len, cap, elems, rest, n, _, h1, hx, hb, hle, hm, hlen, hel, hrest, _⟩
  · exact ⟨none, 0, [], h1, ⟨RdL.nil, Nat.le_refl _, fun _ => ⟨rfl, rfl⟩, by unfold maxLen; omega⟩, (by simp), by omega⟩
  · have e5 : Tryz.prog.cellsOf 5 = 1 := by kernel_rfl
    rw [e5] at hel
    have each : ∀ k, ∃ q : Nat, k < len → w.cell? ((a.add (k * 1)).add 0) = some (.int .u8 (q : Int)) ∧ q < 256 := fun k => by
      by_cases hk : k < len
      · have := hel k hk
        rw [List.getElem?_eq_getElem (by omega), Option.bind_eq_some_iff] at this
        obtain ⟨cs, h2, h3⟩ := this
        obtain ⟨q, h4, h5⟩ := int_come Tryz.underlying5 u8b h3
        have h6 := (World.cells?_some h2).2.2 0 (by decide)
        rw [h4] at h6
        exact ⟨q, fun _ => ⟨by rw [h6]; rfl, h5⟩⟩
      · exact ⟨0, fun h => absurd h hk⟩
    obtain ⟨f, hf⟩ := Classical.axiomOfChoice each
    have hl : ((List.range len).map f).length = len := by simp
    refine ⟨some a, cap, (List.range len).map f, by rw [hl]; exact h1, ⟨fun hne => ?_, by rw [hl]; exact hle, (fun e => by cases e), hm⟩, fun y hy => ?_, ?_⟩
    · have hp : 0 < len := by
        rcases Nat.eq_zero_or_pos len with h0 | h0
        · subst h0; exact absurd rfl hne
        · exact h0
      obtain ⟨b, o, rfl, hlt⟩ := addr_plain (hf 0 hp).1
      refine ⟨b, o, rfl, hlt, fun k x hx => ?_⟩
      have hk : k < len := by have := (List.getElem?_eq_some_iff.1 hx).1; rwa [hl] at this
      rw [List.getElem?_map, List.getElem?_range hk] at hx
      simp only [Option.map_some, Option.some.injEq] at hx
      subst hx
      have := (hf k hk).1
      rw [Addr.add_mid, Addr.add_mid, Nat.mul_one, Nat.add_zero] at this
      exact this
    · obtain ⟨k, hk, rfl⟩ := List.mem_map.1 hy
      exact (hf k (List.mem_range.1 hk)).2
    · have hrl : rest.length = cap - len := (hrest rfl).1
      have hd : d = .slice (elems.map (·.1)) (rest.map (·.1)) := (Prod.mk.inj hx).1
      have hb5 : Tryz.prog.bytesOf 5 = 1 := by kernel_rfl
      have := hr ((elems.length + rest.length) * 1) (by rw [hd]; simp [DataW.weights, Tryz.underlying22, hb5])
      simp only [reachBytes] at this
      omega
theorem weights_all {P : Program} {e : TypeId} : ∀ {ds : List (DataW H)} {j : Nat} {d : DataW H}, ds[j]? = some d → ∀ n ∈ d.weights P e, n ∈ DataW.weightsAll P e ds
  | [], j, d, h, _, _ => by simp at h
  | d0 :: ds, 0, d, h, n, hn => by
    cases h
    simp only [DataW.weightsAll, List.mem_append]
    exact .inl hn
  | d0 :: ds, j + 1, d, h, n, hn => by
    simp only [DataW.weightsAll, List.mem_append]
    exact .inr (weights_all (by simpa using h) n hn)
/-- an option that comes in -/
theorem opt_come {held : Bool} {fuel : Nat} {cs : List Value} {d : DataW H} {ps : List MemPlace} (h : DataW.trod enc Tryz.prog w 0 (fun _ => true) held fuel 24 cs = some (d, ps)) (hr : ∀ n ∈ d.weights Tryz.prog 24, n ≤ reachBytes) :
    ∃ x : Opt, cs = [.int .u8 (x.kind : Int), .slice x.adr x.data.length x.cap] ∧ Bs w w.heap.size x.adr x.cap x.data ∧ x.kind < 256 ∧ (∀ y ∈ x.data, y < 256) ∧ x.cap ≤ 140737488351232 := by
  obtain ⟨xs, n, _, hx, hlen, hl, hi⟩ := DataW.trod_struct Tryz.underlying24 h
  have hd : d = .agg (xs.map (·.1)) := (Prod.mk.inj hx).1
  have e41 : Tryz.prog.cellsOf 24 = 2 := by kernel_rfl
  have e5 : Tryz.prog.cellsOf 5 = 1 := by kernel_rfl
  have e22 : Tryz.prog.cellsOf 22 = 1 := by kernel_rfl
  rw [e41] at hlen
  replace hl : xs.length = 2 := hl
  have h0 : DataW.trod enc Tryz.prog w 0 (fun _ => true) held n 5 ((cs.drop 0).take (Tryz.prog.cellsOf 5)) = xs[0]? := hi 0 _ rfl
  have h1 : DataW.trod enc Tryz.prog w 0 (fun _ => true) held n 22 ((cs.drop 1).take (Tryz.prog.cellsOf 22)) = xs[1]? := hi 1 _ rfl
  rw [e5] at h0
  rw [e22] at h1
  rw [List.getElem?_eq_getElem (by omega)] at h0 h1
  obtain ⟨k, hk, hk2⟩ := int_come Tryz.underlying5 u8b h0
  generalize hx1 : xs[1] = x1 at h1
  obtain ⟨d1, p1⟩ := x1
  have hw : ∀ n ∈ d1.weights Tryz.prog 22, n ≤ reachBytes := fun n hn => hr n (by
    rw [hd]
    simp only [DataW.weights, Tryz.underlying24]
    exact DataW.weights_mem_each (j := 1) (t := 22) (d := d1) rfl (by rw [List.getElem?_map, List.getElem?_eq_getElem (by omega), hx1]; rfl) n hn)
  obtain ⟨A, c, l, e, hb, h256, hc⟩ := bytes_come h1 hw
  refine ⟨⟨k, A, c, l⟩, ?_, hb, hk2, h256, hc⟩
  have g0 := one_at hk
  have g1 := one_at e
  apply List.ext_getElem?
  intro i
  match i with
  | 0 => rw [g0]; rfl
  | 1 => rw [g1]; rfl
  | i + 2 => rw [List.getElem?_eq_none (by omega), List.getElem?_eq_none (by simp)]
/-- options that come in -/
theorem opts_come {held : Bool} {fuel : Nat} {cs : List Value} {d : DataW H} {ps : List MemPlace} (h : DataW.trod enc Tryz.prog w 0 (fun _ => true) held fuel 58 cs = some (d, ps)) (hr : ∀ n ∈ d.weights Tryz.prog 58, n ≤ reachBytes) :
    ∃ (A : Option Addr) (c : Nat) (L : List Opt), cs = [.slice A L.length c] ∧ OptsAt w w.heap.size A L := by
  rcases DataW.trod_slice Tryz.underlying58 h with ⟨h1, _⟩ | ⟨a, len, cap, elems, rest, n, _, h1, hx, hb, hle, hm, hlen, hel, hrest, _⟩
  · exact ⟨none, 0, [], h1, fun h => absurd rfl h, (by simp), by simp⟩
  · have e41 : Tryz.prog.cellsOf 24 = 2 := by kernel_rfl
    rw [e41] at hel
    have hd : d = .slice (elems.map (·.1)) (rest.map (·.1)) := (Prod.mk.inj hx).1
    have each : ∀ k, ∃ q : Opt, k < len → (∃ cs : List Value, w.cells? 0 (a.add (k * 2)) 2 = some cs ∧ cs = [.int .u8 (q.kind : Int), .slice q.adr q.data.length q.cap]) ∧ Bs w w.heap.size q.adr q.cap q.data ∧ q.kind < 256 ∧ (∀ y ∈ q.data, y < 256) ∧ q.cap ≤ 140737488351232 := fun k => by
      by_cases hk : k < len
      · have := hel k hk
        rw [List.getElem?_eq_getElem (by omega), Option.bind_eq_some_iff] at this
        obtain ⟨cs, h2, h3⟩ := this
        generalize hek : elems[k] = ek at h3
        obtain ⟨dk, pk⟩ := ek
        obtain ⟨q, h4, h5⟩ := opt_come h3 (fun n hn => hr n (by
          rw [hd]
          simp only [DataW.weights, Tryz.underlying58, List.mem_cons, List.mem_append]
          exact .inr (.inl (weights_all (j := k) (by rw [List.getElem?_map, List.getElem?_eq_getElem (by omega), hek]; rfl) n hn))))
        exact ⟨q, fun _ => ⟨⟨cs, h2, h4⟩, h5⟩⟩
      · exact ⟨⟨0, none, 0, []⟩, fun h => absurd h hk⟩
    obtain ⟨f, hf⟩ := Classical.axiomOfChoice each
    have hl : ((List.range len).map f).length = len := by simp
    have cellat : ∀ k, k < len → ∀ j v, ([.int .u8 ((f k).kind : Int), .slice (f k).adr (f k).data.length (f k).cap] : List Value)[j]? = some v → w.cell? ((a.add (k * 2)).add j) = some v := fun k hk j v hj => by
      obtain ⟨⟨cs, h2, h3⟩, _⟩ := hf k hk
      have h4 := World.cells?_some h2
      have hlj : j < 2 := by
        have := (List.getElem?_eq_some_iff.1 hj).1
        simpa using this
      have := h4.2.2 j hlj
      rw [h3] at this
      rw [this]
      exact hj
    refine ⟨some a, cap, (List.range len).map f, by rw [hl]; exact h1, fun hne => ?_, fun x hx => ?_, ?_⟩
    · have hp : 0 < len := by
        rcases Nat.eq_zero_or_pos len with h0 | h0
        · subst h0; exact absurd rfl hne
        · exact h0
      obtain ⟨b, o, rfl, hlt⟩ := addr_plain (cellat 0 hp 0 _ rfl)
      refine ⟨b, o, rfl, hlt, fun k x hx => ?_⟩
      have hk : k < len := by have := (List.getElem?_eq_some_iff.1 hx).1; rwa [hl] at this
      rw [List.getElem?_map, List.getElem?_range hk] at hx
      simp only [Option.map_some, Option.some.injEq] at hx
      subst hx
      have c0 := cellat k hk 0 _ rfl
      have c1 := cellat k hk 1 _ rfl
      rw [Addr.add_mid, Addr.add_mid] at c0 c1
      exact ⟨c0, c1⟩
    · obtain ⟨k, hk, rfl⟩ := List.mem_map.1 hx
      obtain ⟨q1, q2, q3, q4⟩ := (hf k (List.mem_range.1 hk)).2
      exact ⟨q1, q2, q3, by omega⟩
    · have hrl : rest.length = cap - len := (hrest rfl).1
      have hb41 : Tryz.prog.bytesOf 24 = 32 := by kernel_rfl
      have := hr ((elems.length + rest.length) * 32) (by rw [hd]; simp [DataW.weights, Tryz.underlying58, hb41])
      simp only [reachBytes] at this
      rw [hl]
      omega
theorem slice_of {v : Value} {A : Option Addr} {n c : Nat} {P : Program} {W : World} {r : Reach} {b0 t e : Nat} (ht : P.underlying t = some (.slice e)) (hv : Value.okWide P W r b0 t v) (h : v.cells.toList = [.slice A n c]) : v = .slice A n c := by
  obtain ⟨A', n', c', rfl⟩ := okWide_slice ht hv
  simpa [Value.cells] using h
end Go.Proofs.YtfolamkjlgpgmaaGreatDoor
