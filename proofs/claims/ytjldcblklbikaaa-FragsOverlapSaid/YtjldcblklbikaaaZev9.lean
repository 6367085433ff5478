/- Copies, conversions, maps, in a small world of labels. No condition. -/
import Derived.Test.YtjldcblklbikaaaZev8
namespace Go.Proofs.YtjldcblklbikaaaZev
open Go.RowKit
set_option linter.unusedVariables false

section
variable {P : Program} {w0 w w1 : World} {K : Nat → Prop} {ro : Nat → Bool} {β : Env} {H : Heap}

/-! ### copies -/
def cutN (x : Value) (n : Nat) : Option (Nat × Value) :=
  match x with
  | .slice none m c => if m = 0 then some (0, .slice none 0 c) else none
  | .slice (some a) m k => some (min m n, .slice (some a) (min m n) (2 * (k / 2)))
  | .string b => some (min b.size n, .string (b.extract 0 (min b.size n)))
  | _ => none
theorem SR.less {a a' : Addr} {n k c' m : Nat} (h : SR β a a' n k c') (hm : m ≤ n) : SR β a a' m (2 * (k / 2)) c' := by
  obtain ⟨h1, h2, h3, h4⟩ := h
  refine ⟨h1, by omega, fun hk => by omega, ?_⟩
  rw [show 2 * (k / 2) / 2 = k / 2 from by omega]; exact h4

def copyE (P : Program) (ro : Nat → Bool) (H : Heap) (ts : Array TypeId) (d x : Value) : Option (Value × Heap) :=
  match ts[0]? with
  | some t =>
    match P.underlying t with
    | some (.slice e) =>
      match P.info? e, d with
      | some i, .slice none n c =>
        match cutN x n with
        | some (m, _) => if m = 0 then some (goInt 0, H) else none
        | none => none
      | some i, .slice (some ⟨l, o, none⟩) n k =>
        match cutN x n with
        | some (m, y) =>
          match srcE H i.size y with
          | some (m2, cs) =>
            if m = 0 then (if m2 = 0 then some (goInt 0, H) else none)
            else match H[l]? with
              | some (some (.cells c ty z)) => if ro l = false ∧ m2 = m ∧ k / 2 = i.size ∧ o + m * i.size ≤ c.size then some (goInt m, H.set l (some (.cells (putAll c o cs) ty z))) else none
              | _ => none
          | none => none
        | none => none
      | _, _ => none
    | _ => none
  | none => none

theorem cutN_vr {x x' y : Value} {n m : Nat} (hx : VR β x x') (h : cutN x n = some (m, y)) :
    ∃ y' L, VR β y y' ∧ (∀ w, (Builtin.lenOf x').run P w = .ok L w) ∧ Nat.min L n = m ∧ (∀ s (w : World), (Builtin.firstCells s m x').run P w = (Builtin.firstCells s m y').run P w) := by
  unfold cutN at h
  split at h
  · split at h
    · rename_i hm; subst hm; cases h; cases hx; exact ⟨_, 0, .nils _ _, fun w => by simp [Builtin.lenOf], by simp, fun s w => rfl⟩
    · cases h
  · cases h
    cases hx with
    | sl g => exact ⟨_, _, .sl (g.less (Nat.min_le_left _ _)), fun w => by simp [Builtin.lenOf], rfl, fun s w => by simp [Builtin.firstCells]⟩
  · rename_i b
    cases h
    cases hx
    refine ⟨_, _, .string _, fun w => by simp [Builtin.lenOf], rfl, fun s w => ?_⟩
    have : (b.extract 0 (min b.size n)).extract 0 (min b.size n) = b.extract 0 (min b.size n) := by
      apply ByteArray.ext
      simp [ByteArray.data_extract, Array.extract_extract]
    simp [Builtin.firstCells, this]
  · cases h

theorem copyE_run (h : M w0 K ro β H w) {ts : Array TypeId} {ty : TypeId} {d d' x x' v : Value} {H' : Heap} (hd : VR β d d') (hx : VR β x x') (he : copyE P ro H ts d x = some (v, H')) :
    ∃ w1, (Builtin.copy_ ts ty #[d', x']).run P w = .ok v w1 ∧ M w0 K ro β H' w1 ∧ VR β v v := by
  unfold copyE at he
  split at he
  case h_2 => cases he
  rename_i t h0
  split at he
  case h_2 => cases he
  rename_i e hu
  have g0 : (#[d', x'] : Array Value)[0]? = some d' := rfl
  have g1 : (#[d', x'] : Array Value)[1]? = some x' := rfl
  split at he
  · rename_i i n c hi
    have hsz : (Go.sizeOf e).run P w = .ok i.size w := by simp [Go.sizeOf, typeInfo, hi]
    split at he
    · rename_i m y hcut
      split at he
      · rename_i hm
        subst hm
        cases he
        cases hd
        obtain ⟨y', L, c1, c2, c3, c4⟩ := cutN_vr (P := P) hx hcut
        have hf : ∃ news, (Builtin.firstCells i.size 0 x').run P w = .ok news w := by
          unfold cutN at hcut
          split at hcut
          · cases hx; exact ⟨#[], by simp [Builtin.firstCells]⟩
          · cases hx; exact ⟨#[], by simp [Builtin.firstCells, loadCells, loadCellsFrom]⟩
          · cases hx; exact ⟨_, by simp only [Builtin.firstCells]; rfl⟩
          · cases hcut
        obtain ⟨news, hf⟩ := hf
        refine ⟨w, ?_, h, .int _ _⟩
        have c3' : Nat.min L n = 0 := c3
        simp [Builtin.copy_, h0, run_underlying hu, c2, c3', hsz, hf, goInt]
      · cases he
    · cases he
  · rename_i i l o n k hi
    have hsz : (Go.sizeOf e).run P w = .ok i.size w := by simp [Go.sizeOf, typeInfo, hi]
    cases hd with
    | sl g =>
    rename_i a' cap
    split at he
    · rename_i m y hcut
      obtain ⟨y', L, c1, c2, c3, c4⟩ := cutN_vr (P := P) hx hcut
      have c3' : Nat.min L n = m := c3
      split at he
      · rename_i m2 cs hsrc
        obtain ⟨cs', a1, a2, a3, a4, a5⟩ := srcE_run (P := P) h c1 hsrc
        split at he
        · rename_i hm
          subst hm
          split at he
          · rename_i hm2
            subst hm2
            cases he
            have e : cs' = [] := List.eq_nil_of_length_eq_zero (by rw [← a3.1, a4]; simp)
            subst e
            refine ⟨w, ?_, h, .int _ _⟩
            have hf := (c4 i.size w).trans a2
            simp [Builtin.copy_, h0, run_underlying hu, c2, c3', hsz, hf, goInt, storeCells]
          · cases he
        · rename_i hm
          split at he
          · rename_i c tt z hl
            split at he
            · rename_i hc
              obtain ⟨hro, rfl, e2, e3⟩ := hc
              cases he
              obtain ⟨p, c', t', fz, q1, q2, q3, q4⟩ := h.cells (o := o) hl
              have hn : 0 < n := by have : Nat.min L n ≤ n := Nat.min_le_right _ _; omega
              obtain ⟨_, rfl⟩ := (g.ar hn).live q1
              have hs := q3.size
              have hle := q3.le
              have hlen : cs'.length = m2 * i.size := by rw [← a3.1, a4]
              obtain ⟨w1, b1, b2, b3⟩ := run_storeCells_blk P (s := p.s + o) cs' 0 c' w q2 (by rw [hlen]; omega) a5
                (fun j hj => by
                  have := q3.fz (o + j) (by rw [hlen] at hj; omega)
                  rwa [show p.s + o + 0 + j = p.s + (o + j) from by omega])
              refine ⟨w1, ?_, h.turn q1 hro _ _ b2 b3 (.cells ?_ q4), .int _ _⟩
              · have hf := (c4 i.size w).trans a2
                simp [Builtin.copy_, h0, run_underlying hu, c2, c3', hsz, hf, goInt, b1]
              · have := CR.putAll _ _ _ _ o q3 a3 (by rw [a4]; omega)
                simpa [Nat.add_assoc] using this
            · cases he
          · cases he
      · cases he
    · cases he
  · cases he

/-! ### cells that are cleared -/
def clearE (P : Program) (ro : Nat → Bool) (H : Heap) (ts : Array TypeId) (x : Value) : Option Heap :=
  match ts[0]? with
  | some t =>
    match P.underlying t, x with
    | some (.slice e), .slice none _ _ => some H
    | some (.slice e), .slice (some ⟨l, o, none⟩) n k =>
      if n = 0 then some H
      else match P.info? e, zeroE P e, H[l]? with
        | some i, some z, some (some (.cells c ty zz)) =>
          if ro l = false ∧ k / 2 = i.size ∧ z.size = i.size ∧ (Builtin.zeroCells z n).all bare = true ∧ o + n * i.size ≤ c.size then some (H.set l (some (.cells (putAll c o (Builtin.zeroCells z n).toList) ty zz))) else none
        | _, _, _ => none
    | _, _ => none
  | none => none
theorem clearE_run (h : M w0 K ro β H w) {ts : Array TypeId} {ty : TypeId} {x x' : Value} {H' : Heap} (hx : VR β x x') (he : clearE P ro H ts x = some H') :
    ∃ w1, (Builtin.clear_ ts ty #[x']).run P w = .ok (.tuple #[]) w1 ∧ M w0 K ro β H' w1 := by
  unfold clearE at he
  split at he
  case h_2 => cases he
  rename_i t h0
  split at he
  · rename_i e n c hu
    cases he
    cases hx
    exact ⟨w, by simp [Builtin.clear_, h0, run_underlying hu], h⟩
  · rename_i e l o n k hu
    cases hx with
    | sl g =>
    rename_i a' cap
    split at he
    · rename_i hn
      subst hn
      cases he
      exact ⟨w, by simp [Builtin.clear_, h0, run_underlying hu], h⟩
    · rename_i hn
      split at he
      · rename_i i z c tt zz hi hz hl
        split at he
        · rename_i hc
          obtain ⟨hro, c1, c2, c3, c4⟩ := hc
          cases he
          obtain ⟨zv, rfl, hzr, hzb⟩ := zeroE_run hz
          obtain ⟨p, c', t', fz, q1, q2, q3, q4⟩ := h.cells (o := o) hl
          obtain ⟨_, rfl⟩ := (g.ar (by omega)).live q1
          have hs := q3.size
          have hle := q3.le
          have hlen : (Builtin.zeroCells zv.cells n).toList.length = n * i.size := by rw [Array.length_toList, size_zeroCells, c2]
          obtain ⟨w1, b1, b2, b3⟩ := run_storeCells_blk P (s := p.s + o) (Builtin.zeroCells zv.cells n).toList 0 c' w q2 (by rw [hlen]; omega)
            (fun v hv => bare_one (Array.all_eq_true_iff_forall_mem.1 c3 v (by simpa using hv)))
            (fun j hj => by
              have := q3.fz (o + j) (by rw [hlen] at hj; omega)
              rwa [show p.s + o + 0 + j = p.s + (o + j) from by omega])
          refine ⟨w1, ?_, h.turn q1 hro _ _ b2 b3 (.cells ?_ q4)⟩
          · obtain ⟨n, rfl⟩ := Nat.exists_eq_succ_of_ne_zero hn
            simp [Builtin.clear_, h0, run_underlying hu, hzr, b1]
          · have := CR.putAll _ _ _ _ o q3 (AsR.toList (all_bare_asr (β := β) c3)) (by rw [hlen]; omega)
            simpa [Nat.add_assoc] using this
        · cases he
      · cases he
  · cases he

/-! ### conversions -/
def u8s : List Value → Option (List Int)
  | [] => some []
  | .int .u8 n :: r => (u8s r).map (n :: ·)
  | _ => none
theorem u8s_eq : ∀ {l : List Value} {ns : List Int}, u8s l = some ns → l = ns.map (Value.int .u8) := by
  intro l
  induction l with
  | nil => intro ns h; cases h; rfl
  | cons v r ih =>
    intro ns h
    unfold u8s at h
    split at h
    · rename_i e; cases e
    · rename_i n r' e
      cases e
      cases hr : u8s r with
      | none => rw [hr] at h; cases h
      | some q => rw [hr] at h; cases h; rw [ih hr]; rfl
    · cases h

def convE (P : Program) (ro : Nat → Bool) (H : Heap) (src dst : TypeId) (x : Value) : Option (Value × Heap) :=
  match P.underlying src, P.underlying dst, x with
  | some _, some (.int k), .int _ n => some (.int k (k.wrap n), H)
  | some .string, some .string, .string s => some (.string s, H)
  | some .string, some (.slice e), .string s =>
    match P.underlying e with
    | some (.int .u8) => some (.slice (some ⟨H.length, 0, none⟩) s.size 2, H ++ [some (.cells (s.data.toList.map fun y => Value.int .u8 y.toNat).toArray e (1, 1))])
    | _ => none
  | some (.slice _), some (.slice e), .slice (some ⟨l, o, none⟩) n k =>
    match src == dst, P.underlying e, H[l]?, ro l with
    | true, some (.int .u8), some (some (.cells c ty (0, 0))), false => some (.slice (some ⟨l, o, none⟩) n k, H.set l (some (.cells c ty (1, 1))))
    | _, _, _, _ => none
  | some (.slice e), some .string, .slice none _ _ =>
    match P.underlying e with
    | some (.int .u8) => some (.string .empty, H)
    | _ => none
  | some (.slice e), some .string, .slice (some a) n k =>
    match P.underlying e with
    | some (.int .u8) =>
      match srcE H 1 (.slice (some a) n k) with
      | some (_, cs) => match u8s cs with
        | some ns => some (.string (ns.foldl (fun r n => r.push (UInt8.ofNat n.toNat)) ByteArray.empty), H)
        | none => none
      | none => none
    | _ => none
  | _, _, _ => none

theorem convE_run (h : M w0 K ro β H w) {src dst : TypeId} {x x' v : Value} {H' : Heap} (hx : VR β x x') (he : convE P ro H src dst x = some (v, H')) :
    ∃ v' w1 β', (convert src dst x').run P w = .ok v' w1 ∧ Ext β β' ∧ M w0 K ro β' H' w1 ∧ VR β' v v' := by
  unfold convE at he
  split at he
  · rename_i d k n hs hd
    cases he
    cases hx
    refine ⟨_, w, β, ?_, Ext.refl β, h, .int _ _⟩
    simp only [convert, Sem.run_bind, run_underlying hs, run_underlying hd, Result.andThen_ok]
    cases d <;> rfl
  · rename_i s hs hd
    cases he
    cases hx
    exact ⟨_, w, β, by simp [convert, run_underlying hs, run_underlying hd], Ext.refl β, h, .string _⟩
  · rename_i e s hs hd
    split at he
    · rename_i hu
      cases he
      cases hx
      have hb := run_bytes_of_string (P := P) w src dst e s hs hd hu
      have hsz : (bytesRow s (grownCap w s.size 0 e)).size = grownCap w s.size 0 e := by
        have := grownCap_ge w s.size 0 e
        simp only [bytesRow, Array.size_append, Array.size_map, Array.size_replicate]
        have h2 : s.data.size = s.size := rfl
        omega
      refine ⟨_, _, β ++ [some ⟨w.heap.size, 0, grownCap w s.size 0 e⟩], hb, Ext.push _ _, ?_, ?_⟩
      · refine h.drew.alloc (grownCap w s.size 0 e) _ _ (.cells ⟨by rw [hsz]; simp, ?_, fun i y hy => ?_, fun i hi => by have hi : i < grownCap w s.size 0 e := hi; simp only; rw [hsz]; omega⟩ (fun e => by simp at e))
        · have := grownCap_ge w s.size 0 e
          simp only [List.size_toArray, List.length_map, Array.length_toList]
          exact this
        · simp only [List.getElem?_toArray, List.getElem?_map, Array.getElem?_toList] at hy
          rcases Nat.lt_or_ge i s.data.size with hi | hi
          · rw [Array.getElem?_eq_getElem hi] at hy
            cases hy
            exact ⟨_, by rw [Nat.zero_add]; exact bytesRow_at s _ i hi, .int _ _⟩
          · rw [Array.getElem?_eq_none hi] at hy; cases hy
      · exact .sl ⟨rfl, grownCap_ge _ _ _ _, fun hk => by simp at hk, .inl ⟨⟨w.heap.size, 0, grownCap w s.size 0 e⟩, by rw [← h.len]; simp, rfl, rfl, .inl rfl, by simp⟩⟩
    · cases he
  · rename_i e1 e l o n k hs hd
    split at he
    · rename_i c tt hsd hu hl hro
      cases he
      cases hx with
      | sl g =>
        rename_i a' cap
        obtain ⟨p, c', t', fz, q1, q2, q3, q4⟩ := h.cells (o := o) hl
        have q4 := q4 rfl
        subst q4
        have hb : a'.block = p.b := by
          obtain ⟨_, _, _, ⟨q, g4, g5, _⟩ | g4⟩ := g
          · rw [q1] at g4; cases g4; exact g5
          · rw [q1] at g4; cases g4
        have hsz := q3.size
        have hsh : w.shape? p.b = some (t', c'.size) := by simp [World.shape?, q2]
        have hsd' : src = dst := by simpa using hsd
        have hbb : (w.freeze ⟨p.b, c'.size, none⟩ 1).heap[p.b]? = some (.cells c' t' (c'.size, c'.size + 1)) := by
          simp [World.freeze, Array.getElem?_modify, q2]
        refine ⟨.slice (some a') n cap, w.freeze ⟨p.b, c'.size, none⟩ 1, β, ?_, Ext.refl β, h.turn q1 hro _ _ ⟨rfl, rfl, rfl, by simp [World.freeze], fun k hk hne => ?_⟩ hbb (.cells ⟨q3.size, q3.le, q3.at_, fun i hi => by simp only; omega⟩ (fun e => by simp at e)), .sl g⟩
        · simp [convert, run_underlying hd, run_underlying hu, hsd', markStringish, hb, hsh]
        · simp only [World.freeze, Nat.succ_ne_zero, if_false, Array.getElem?_modify]
          rw [if_neg (fun e => hne e.symm)]
    · cases he
  · rename_i e n c hs hd
    split at he
    · rename_i hu
      cases he
      cases hx
      exact ⟨_, w, β, by simp [convert, run_underlying hs, run_underlying hd, run_underlying hu, Conv.bytesToString], Ext.refl β, h, .string _⟩
    · cases he
  · rename_i e a n k hs hd
    split at he
    · rename_i hu
      split at he
      · rename_i m cs hsrc
        split at he
        · rename_i ns hn
          cases he
          obtain ⟨cs', a1, a2, a3, a4, a5⟩ := srcE_run (P := P) h hx hsrc
          have e1 := u8s_eq hn
          have e2 : cs' = cs := by
            refine ints_eq ?_ a3
            rw [e1]
            unfold ints
            rw [List.all_eq_true]
            intro y hy
            obtain ⟨z, _, rfl⟩ := List.mem_map.1 hy
            rfl
          cases hx with
          | sl g =>
            rename_i a' cap
            have hm : m = n := by
              simp only [Builtin.lenOf, Sem.run_pure, Result.ok.injEq, and_true] at a1
              exact a1.symm
            subst hm
            simp only [Builtin.firstCells, Nat.mul_one] at a2
            have := run_bytesToString (P := P) w a' m cap ns (by rw [a2, e2, e1])
            exact ⟨_, w, β, by simp [convert, run_underlying hs, run_underlying hd, run_underlying hu, this], Ext.refl β, h, .string _⟩
        · cases he
      · cases he
    · cases he
  · cases he

end
end Go.Proofs.YtjldcblklbikaaaZev
