/- Fields, elements, slices, values that are built, in a small world of labels. No condition. -/
import Derived.Test.YtjldcblklbikaaaZev4
namespace Go.Proofs.YtjldcblklbikaaaZev
open Go.RowKit
set_option linter.unusedVariables false

section
variable {P : Program} {w0 w w1 : World} {K : Nat → Prop} {ro : Nat → Bool} {β : Env} {H : Heap}

theorem AR.add {a a' : Addr} (h : AR β a a') (n : Nat) (ha : a.spot = none) : AR β ⟨a.block, a.off + n, none⟩ (a'.add n) := by
  obtain ⟨h1, ⟨p, h2, rfl⟩ | h2⟩ := h
  · exact ⟨rfl, .inl ⟨p, h2, by rw [Addr.add_mid]; simp; omega⟩⟩
  · exact ⟨rfl, .inr h2⟩

/-! ### part of a row -/
def partE (P : Program) (t : TypeId) (c : Array Value) (o : Nat) : Option Value :=
  match P.underlying t, P.info? t with
  | some d, some i => if d.isRow then some (.agg (c.extract o (o + i.size))) else c[o]?
  | _, _ => none
theorem asr_extract {c c' : Array Value} (h : AsR β c c') (i j : Nat) : AsR β (c.extract i j) (c'.extract i j) := by
  refine ⟨by simp [h.1], fun k x x' a b => ?_⟩
  rw [Array.getElem?_extract] at a b
  rw [← h.1] at b
  split at a
  · rename_i hk; rw [if_pos hk] at b; exact h.2 _ _ _ a b
  · cases a
theorem partE_run {t : TypeId} {c c' : Array Value} {o : Nat} {v : Value} (hc : AsR β c c') (he : partE P t c o = some v) :
    ∃ v', (∀ w, (part t c' o).run P w = .ok v' w) ∧ VR β v v' := by
  unfold partE at he
  split at he
  · rename_i d i hu hi
    have hs : ∀ w, (Go.sizeOf t).run P w = .ok i.size w := fun w => by simp [Go.sizeOf, typeInfo, hi]
    split at he
    · rename_i hd
      cases he
      have := asr_extract hc o (o + i.size)
      refine ⟨.agg (c'.extract o (o + i.size)), ?_, .agg this.1 this.2⟩
      intro w
      simp only [part, Sem.run_bind, isAgg_row hu, hd, Result.andThen_ok, if_true, hs, Sem.run_pure]
    · rename_i hd
      obtain ⟨x', h1, h2⟩ := hc.at he
      have hd' : d.isRow = false := by simpa using hd
      refine ⟨x', ?_, h2⟩
      intro w
      simp only [part, Sem.run_bind, isAgg_row hu, hd', Result.andThen_ok, Bool.false_eq_true, if_false, h1, Sem.run_pure]
  · cases he

def fieldE (P : Program) (t : TypeId) (x : Value) (f : Nat) : Option Value :=
  match P.underlying t, x with
  | some (.struct fs), .agg c => match fs[f]? with
    | some fd => partE P fd.type c fd.offset
    | none => none
  | _, _ => none
theorem fieldE_run {t : TypeId} {x x' v : Value} {f : Nat} (hx : VR β x x') (he : fieldE P t x f = some v) :
    ∃ v', (∀ w, (Instr.field t x' f).run P w = .ok v' w) ∧ VR β v v' := by
  unfold fieldE at he
  split at he
  · rename_i fs c hu
    split at he
    · rename_i fd hf
      cases hx with
      | agg h1 h2 =>
        obtain ⟨v', e1, e2⟩ := partE_run ⟨h1, h2⟩ he
        exact ⟨v', fun w => by simp [Instr.field, run_underlying hu, hf, asAgg, e1], e2⟩
    · cases he
  · cases he

def fieldAtE (P : Program) (t : TypeId) (x : Value) (f : Nat) : Option Value :=
  match P.underlying t, x with
  | some (.struct fs), .pointer (some a) => match fs[f]? with
    | some fd => match P.info? fd.type with
      | some i => if i.size = 0 ∨ a.spot.isSome = true then none else some (.pointer (some ⟨a.block, a.off + fd.offset, none⟩))
      | none => none
    | none => none
  | _, _ => none
theorem fieldAtE_run {t : TypeId} {x x' v : Value} {f : Nat} (hx : VR β x x') (he : fieldAtE P t x f = some v) :
    ∃ v', (∀ w, (Instr.fieldAt t x' f).run P w = .ok v' w) ∧ VR β v v' := by
  unfold fieldAtE at he
  split at he
  · rename_i fs a hu
    split at he
    · rename_i fd hf
      split at he
      · rename_i i hi
        split at he
        · cases he
        · rename_i hz
          cases he
          cases hx with
          | ptr k =>
            rename_i a'
            refine ⟨.pointer (some (a'.add fd.offset)), ?_, .ptr (k.add _ k.1)⟩
            have h0 : ¬ i.size = 0 := fun e => hz (.inl e)
            intro w
            simp [Instr.fieldAt, run_underlying hu, hf, Instr.sureAddr, fieldPlace, Go.sizeOf, typeInfo, hi, h0]
      · cases he
    · cases he
  · cases he

/-! ### elements -/
def indexAtE (P : Program) (t : TypeId) (x ix : Value) : Option Value :=
  match P.underlying t, x, ix with
  | some (.array n e), .pointer (some a), .int _ i =>
    match P.info? e with
    | some f => if 0 ≤ i ∧ i < n ∧ a.spot = none then some (.pointer (some ⟨a.block, a.off + i.toNat * f.size, none⟩)) else none
    | none => none
  | some (.slice e), .slice (some a) n k, .int _ i =>
    match P.info? e with
    | some f => if 0 ≤ i ∧ i < n then some (.pointer (some ⟨a.block, a.off + i.toNat * f.size, none⟩)) else none
    | none => none
  | _, _, _ => none
theorem SR.ar {a a' : Addr} {n k c' : Nat} (h : SR β a a' n k c') (hn : 0 < n) : AR β a a' := by
  obtain ⟨h1, h2, _, ⟨p, h3, h4, h5, h6, h7⟩ | h3⟩ := h
  · refine ⟨h1, .inl ⟨p, h3, ?_⟩⟩
    rcases h6 with h6 | h6
    · cases a'; simp only at h4 h5 h6; subst h4; subst h5; subst h6; rfl
    · omega
  · exact ⟨h1, .inr h3⟩
theorem indexAtE_run {t : TypeId} {x x' ix ix' v : Value} (hx : VR β x x') (hi : VR β ix ix') (he : indexAtE P t x ix = some v) :
    ∃ v', (∀ w, (Instr.indexAt t x' ix').run P w = .ok v' w) ∧ VR β v v' := by
  unfold indexAtE at he
  split at he
  · rename_i n e a kk i hu
    split at he
    · rename_i f hf
      split at he
      · rename_i hc
        cases he
        cases hi
        cases hx with
        | ptr k =>
          rename_i a'
          refine ⟨.pointer (some (a'.add (i.toNat * f.size))), ?_, .ptr (k.add _ k.1)⟩
          intro w
          simp [Instr.indexAt, run_underlying hu, asIntOf, Instr.sureAddr, Go.sizeOf, typeInfo, hf, hc.1, hc.2.1]
      · cases he
    · cases he
  · rename_i e a n k kk i hu
    split at he
    · rename_i f hf
      split at he
      · rename_i hc
        cases he
        cases hi
        cases hx with
        | sl k =>
          rename_i a' c'
          have ka := k.ar (by omega)
          refine ⟨.pointer (some (a'.add (i.toNat * f.size))), ?_, .ptr (ka.add _ ka.1)⟩
          intro w
          simp [Instr.indexAt, run_underlying hu, asIntOf, Go.sizeOf, typeInfo, hf, hc.1, hc.2]
      · cases he
    · cases he
  · cases he

def indexE (P : Program) (t : TypeId) (x ix : Value) : Option Value :=
  match P.underlying t, x, ix with
  | some (.array n e), .agg c, .int _ i =>
    match P.info? e with
    | some f => if 0 ≤ i ∧ i < n then partE P e c (i.toNat * f.size) else none
    | none => none
  | some .string, .string s, .int _ i => if 0 ≤ i then (s[i.toNat]?).map fun b => .int .u8 b.toNat else none
  | _, _, _ => none
theorem indexE_run {t : TypeId} {x x' ix ix' v : Value} (hx : VR β x x') (hi : VR β ix ix') (he : indexE P t x ix = some v) :
    ∃ v', (∀ w, (Instr.index t x' ix').run P w = .ok v' w) ∧ VR β v v' := by
  unfold indexE at he
  split at he
  · rename_i n e c kk i hu
    split at he
    · rename_i f hf
      split at he
      · rename_i hc
        cases hi
        cases hx with
        | agg h1 h2 =>
          obtain ⟨v', e1, e2⟩ := partE_run ⟨h1, h2⟩ he
          exact ⟨v', fun w => by simp [Instr.index, run_underlying hu, asIntOf, Go.sizeOf, typeInfo, hf, hc.1, hc.2, e1], e2⟩
      · cases he
    · cases he
  · rename_i s kk i hu
    split at he
    · rename_i hc
      cases hi
      cases hx
      cases hs : s[i.toNat]? with
      | none => rw [hs] at he; cases he
      | some b =>
        rw [hs] at he; cases he
        exact ⟨_, fun w => by simp only [Instr.index, Sem.run_bind, asIntOf, Sem.run_pure, Result.andThen_ok, run_underlying hu, if_pos hc, hs], .int _ _⟩
    · cases he
  · cases he

/-! ### slices -/
def asN : Option Value → Nat → Option Nat
  | none, d => some d
  | some (.int _ i), _ => if 0 ≤ i then some i.toNat else none
  | some _, _ => none
inductive OptR (β : Env) : Option Value → Option Value → Prop
  | none : OptR β none none
  | some {v v' : Value} (h : VR β v v') : OptR β (some v) (some v')

theorem run_bound {o : Value} {d n y : Nat} (h : asN (some o) d = some n) (hy : n ≤ y) (c : BoundsCode) {o' : Value} (k : VR β o o') (w : World) :
    (Instr.sliceBound o' y c).run P w = .ok n w := by
  unfold asN at h
  split at h
  · rename_i e; cases e
  · rename_i d2 kk i e
    split at h
    · rename_i h0
      cases h
      cases e
      cases k
      have : 0 ≤ i ∧ i ≤ (y : Int) := ⟨h0, by omega⟩
      simp [Instr.sliceBound, asIntOf, this]
    · cases h
  · cases h

theorem run_bounds {lo hi lo' hi' : Option Value} {l h len cap : Nat} (b : Bool) (k1 : OptR β lo lo') (k2 : OptR β hi hi') (hl : asN lo 0 = some l) (hh : asN hi len = some h)
    (h1 : l ≤ h) (h2 : h ≤ cap) (w : World) : (Instr.sliceBounds b len cap lo' hi' none).run P w = .ok (l, h, cap) w := by
  cases k2 with
  | none =>
    simp only [asN, Option.some.injEq] at hh
    subst hh
    cases k1 with
    | none => simp only [asN, Option.some.injEq] at hl; subst hl; simp [Instr.sliceBounds]
    | some k => simp [Instr.sliceBounds, run_bound hl h1 _ k]
  | some k' =>
    have e := fun c => run_bound (P := P) hh h2 c k' w
    cases k1 with
    | none => simp only [asN, Option.some.injEq] at hl; subst hl; simp [Instr.sliceBounds, e]
    | some k => simp [Instr.sliceBounds, e, run_bound hl h1 _ k]
theorem run_bounds3 {lo hi mx lo' hi' mx' : Option Value} {l h m len cap : Nat} (b : Bool) (k1 : OptR β lo lo') (k2 : OptR β hi hi') (k3 : OptR β mx mx') (hl : asN lo 0 = some l) (hh : asN hi len = some h)
    (hm : asN mx len = some m) (h1 : l ≤ h) (h2 : h ≤ m) (h3 : m ≤ cap) (hn : hi.isSome = true) (mn : mx.isSome = true) (w : World) : (Instr.sliceBounds b len cap lo' hi' mx').run P w = .ok (l, h, m) w := by
  cases k2 with
  | none => cases hn
  | some k' =>
    cases k3 with
    | none => cases mn
    | some k3 =>
      have e := fun c => run_bound (P := P) hh h2 c k' w
      have e3 := fun c => run_bound (P := P) hm h3 c k3 w
      cases k1 with
      | none => simp only [asN, Option.some.injEq] at hl; subst hl; simp [Instr.sliceBounds, e, e3]
      | some k => simp [Instr.sliceBounds, e, e3, run_bound hl h1 _ k]

def sliceE (P : Program) (H : Heap) (t : TypeId) (x : Value) (lo hi mx : Option Value) : Option Value :=
  match P.underlying t, x with
  | some .string, .string s =>
    match mx, asN lo 0, asN hi s.size with
    | none, some l, some h => if l ≤ h ∧ h ≤ s.size then some (.string (s.extract l h)) else none
    | _, _, _ => none
  | some (.slice e), .slice none 0 0 =>
    match mx, asN lo 0, asN hi 0, P.info? e with
    | none, some 0, some 0, some _ => some (.slice none 0 0)
    | some m, some 0, some 0, some _ => if hi.isSome = true ∧ asN (some m) 0 = some 0 then some (.slice none 0 0) else none
    | _, _, _, _ => none
  | some (.slice e), .slice (some a) n k =>
    match P.info? e, asN lo 0, asN hi n with
    | some i, some l, some h =>
      if k / 2 = i.size ∧ l ≤ h ∧ h ≤ n then
        match mx with
        | none => some (.slice (some ⟨a.block, a.off + l * i.size, none⟩) (h - l) (2 * i.size + if k % 2 = 1 ∧ h = n then 1 else 0))
        | some m => match asN (some m) n with
          | some m => if h ≤ m ∧ m ≤ n ∧ hi.isSome = true then some (.slice (some ⟨a.block, a.off + l * i.size, none⟩) (h - l) (2 * i.size + if h = m then 1 else 0)) else none
          | none => none
      else none
    | _, _, _ => none
  | some (.array n e), .pointer (some ⟨b, o, none⟩) =>
    match P.info? e, asN lo 0, asN hi n, H[b]? with
    | some i, some l, some h, some (some (.cells c _ _)) =>
      if l ≤ h ∧ h ≤ n ∧ mx = none ∧ o + n * i.size ≤ c.size then some (.slice (some ⟨b, o + l * i.size, none⟩) (h - l) (2 * i.size + if h = n then 1 else 0)) else none
    | _, _, _, _ => none
  | _, _ => none

theorem SR.cut {a a' : Addr} {n k c' l h m s : Nat} (hs : SR β a a' n k c') (e : k / 2 = s) (h1 : l ≤ h) (h2 : h ≤ m) (h3 : m ≤ c') (bit : Nat) (hb : bit ≤ 1) (hbit : bit = 1 → h = m) :
    SR β ⟨a.block, a.off + l * s, none⟩ (if m = l then a' else a'.add (l * s)) (h - l) (2 * s + bit) (m - l) := by
  obtain ⟨g1, g2, g3, g⟩ := hs
  refine ⟨rfl, by omega, fun hk => by have := hbit (by omega); omega, ?_⟩
  have e2 : (2 * s + bit) / 2 = s := by omega
  rcases g with ⟨p, h4, h5, h6, h7, h8⟩ | h4
  · refine .inl ⟨p, h4, ?_, ?_, ?_, ?_⟩
    · split
      · exact h5
      · unfold Addr.add; split <;> exact h5
    · split
      · exact h6
      · unfold Addr.add; split
        · exact h6
        · rfl
    · by_cases hm : m = l
      · right; omega
      · left
        rw [if_neg hm]
        have h7' : a'.off = p.s + a.off := by rcases h7 with h | h <;> omega
        unfold Addr.add
        split
        · rename_i hz; simp only [hz]; omega
        · simp only; omega
    · rw [e2, Nat.sub_mul]
      rw [e] at h8
      have h9 : l * s ≤ m * s := Nat.mul_le_mul_right _ (by omega)
      have h10 : m * s ≤ c' * s := Nat.mul_le_mul_right _ h3
      show a.off + l * s + (m * s - l * s) ≤ p.n
      omega
  · exact .inr h4

theorem sliceE_run (hM : M w0 K ro β H w) {t : TypeId} {x x' v : Value} {lo hi mx lo' hi' mx' : Option Value} (hx : VR β x x') (k1 : OptR β lo lo') (k2 : OptR β hi hi') (k3 : OptR β mx mx')
    (he : sliceE P H t x lo hi mx = some v) : ∃ v', (∀ w, (Instr.sliceAt t x' lo' hi' mx').run P w = .ok v' w) ∧ VR β v v' := by
  unfold sliceE at he
  split at he
  · rename_i s hu
    split at he
    · rename_i l h hl hh
      split at he
      · rename_i hc
        cases he
        cases hx
        cases k3
        refine ⟨_, fun w => ?_, .string _⟩
        simp [Instr.sliceAt, run_underlying hu, Instr.slice, run_bounds (P := P) false k1 k2 hl hh hc.1 hc.2 w]
      · cases he
    · cases he
  · rename_i e hu
    split at he
    · rename_i i hl hh hi2
      cases he
      cases hx
      cases k3
      refine ⟨.slice none 0 0, fun w => ?_, .nils _ _⟩
      have := run_bounds (P := P) true k1 k2 hl hh (Nat.le_refl _) (Nat.zero_le 0) w
      simp only [Instr.sliceAt, Sem.run_bind, run_underlying hu, Result.andThen_ok, Instr.slice, this]
      simp [Go.sizeOf, typeInfo, hi2]
    · rename_i m i hl hh hi2
      split at he
      · rename_i hc
        cases he
        cases hx
        cases k3 with
        | some k3 =>
          refine ⟨.slice none 0 0, fun w => ?_, .nils _ _⟩
          have := run_bounds3 (P := P) true k1 k2 (.some k3) hl hh hc.2 (Nat.le_refl _) (Nat.le_refl _) (Nat.zero_le 0) hc.1 rfl w
          simp only [Instr.sliceAt, Sem.run_bind, run_underlying hu, Result.andThen_ok, Instr.slice, this]
          simp [Go.sizeOf, typeInfo, hi2]
      · cases he
    · cases he
  · rename_i e a n k hu
    split at he
    · rename_i i l h hi hl hh
      split at he
      · rename_i hc
        obtain ⟨c1, c2, c3⟩ := hc
        have hs : ∀ w, (Go.sizeOf e).run P w = .ok i.size w := fun w => by simp [Go.sizeOf, typeInfo, hi]
        cases hx with
        | sl g =>
          rename_i a' c'
          have g2 := g.2.1
          have g3 := g.2.2.1
          split at he
          · cases he
            cases k3
            refine ⟨.slice (if c' = l then some a' else some (a'.add (l * i.size))) (h - l) (c' - l), fun w => ?_, ?_⟩
            · have := run_bounds (P := P) true k1 k2 hl hh c2 (show h ≤ c' by omega) w
              simp only [Instr.sliceAt, Sem.run_bind, run_underlying hu, Result.andThen_ok, Instr.slice, this, hs, Sem.run_pure, Option.map_some]
            · have := g.cut c1 c2 (show h ≤ c' by omega) (Nat.le_refl _) (if k % 2 = 1 ∧ h = n then 1 else 0) (by split <;> omega) (fun hb => by
                split at hb
                · rename_i hx; have := g3 hx.1; omega
                · omega)
              rw [show (if c' = l then some a' else some (a'.add (l * i.size))) = some (if c' = l then a' else a'.add (l * i.size)) from by split <;> rfl]
              exact .sl this
          · rename_i m
            split at he
            · rename_i m hm
              split at he
              · rename_i hd
                cases he
                cases k3 with
                | some k3 =>
                  refine ⟨.slice (if m = l then some a' else some (a'.add (l * i.size))) (h - l) (m - l), fun w => ?_, ?_⟩
                  · have := run_bounds3 (P := P) true k1 k2 (.some k3) hl hh hm c2 hd.1 (show m ≤ c' by omega) hd.2.2 rfl w
                    simp only [Instr.sliceAt, Sem.run_bind, run_underlying hu, Result.andThen_ok, Instr.slice, this, hs, Sem.run_pure, Option.map_some]
                  · have := g.cut c1 c2 hd.1 (show m ≤ c' by omega) (if h = m then 1 else 0) (by split <;> omega) (fun hb => by
                      split at hb
                      · assumption
                      · omega)
                    rw [show (if m = l then some a' else some (a'.add (l * i.size))) = some (if m = l then a' else a'.add (l * i.size)) from by split <;> rfl]
                    exact .sl this
              · cases he
            · cases he
      · cases he
    · cases he
  · rename_i n e b o hu
    split at he
    · rename_i i l h c ty z hi hl hh hb
      split at he
      · rename_i hc
        obtain ⟨c1, c2, c3, c4⟩ := hc
        cases he
        subst c3
        cases k3
        have hs : ∀ w, (Go.sizeOf e).run P w = .ok i.size w := fun w => by simp [Go.sizeOf, typeInfo, hi]
        obtain ⟨p, cc, tt, fz, d1, d2, d3, d4⟩ := hM.cells (o := o) hb
        cases hx with
        | ptr g =>
          obtain ⟨_, rfl⟩ := g.live d1
          have hle := d3.le
          have g0 : SR β ⟨b, o, none⟩ ⟨p.b, p.s + o, none⟩ n (2 * i.size + 1) n := ⟨rfl, Nat.le_refl _, fun _ => rfl, .inl ⟨p, d1, rfl, rfl, .inl rfl, by
            rw [show (2 * i.size + 1) / 2 = i.size from by omega]; show o + n * i.size ≤ p.n; omega⟩⟩
          have := g0.cut (show (2 * i.size + 1) / 2 = i.size by omega) c1 c2 (Nat.le_refl _) (if h = n then 1 else 0) (by split <;> omega) (fun hb => by
            split at hb
            · assumption
            · omega)
          refine ⟨_, fun w => ?_, .sl this⟩
          have hbd := run_bounds (P := P) false k1 k2 hl hh c1 c2 w
          simp only [Instr.sliceAt, Sem.run_bind, run_underlying hu, Result.andThen_ok, Instr.sureAddr, Sem.run_pure, hbd, hs]
      · cases he
    · cases he
  · cases he
end
end Go.Proofs.YtjldcblklbikaaaZev
