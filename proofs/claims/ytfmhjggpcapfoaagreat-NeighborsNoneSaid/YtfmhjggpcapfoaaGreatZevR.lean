/- Rows: slices of unknown length that calls copy and compare. No condition. -/
import Derived.Test.YtfmhjggpcapfoaaGreatZevD
namespace Go.Proofs.YtfmhjggpcapfoaaGreatZev
open Go.RowKit
set_option linter.unusedVariables false
set_option linter.unusedSectionVars false
variable [Sym] [Kin] [Glob]

/-! ### two hooks -/
def orHook (a b : Hook) : Hook := fun ro f args H n => match a ro f args H n with
  | some r => some r
  | none => b ro f args H n
theorem orHook_ok {P : Program} {xf : FuncId → Option Outs} {a b : Hook} (ha : HookOk ⟨P, a, xf⟩) (hb : HookOk ⟨P, b, xf⟩) : HookOk ⟨P, orHook a b, xf⟩ := by
  intro ro f args H n v H' obs h
  simp only [orHook] at h
  split at h
  · rename_i r e; cases h; exact ha ro f args H n v H' obs e
  · exact hb ro f args H n v H' obs h
theorem orHook_kp {a b : Hook} (ha : HookKp a) (hb : HookKp b) : HookKp (orHook a b) := by
  intro ro f args H n v H' obs h
  simp only [orHook] at h
  split at h
  · rename_i r e; cases h; exact ha ro f args H n v H' obs e
  · exact hb ro f args H n v H' obs h

/-! ### a copy, a comparison -/
/-- the n cells from a on -/
def CellsAt (w : World) (a : Addr) (cs : List Value) : Prop := ∃ c t z, w.heap[a.block]? = some (.cells c t z) ∧ a.spot = none ∧ a.off + cs.length ≤ c.size ∧ (c.toList.drop a.off).take cs.length = cs
theorem CellsAt.spot {w : World} {a : Addr} {cs : List Value} (h : CellsAt w a cs) : a.spot = none := by
  obtain ⟨_, _, _, _, h, _⟩ := h; exact h
def CopyOk (P : Program) (own : FuncId) (good : List Value → Prop) : Prop := ∀ (w : World) (a : Addr) (c : Nat) (cs : List Value), good cs → cs.length ≤ c → CellsAt w a cs →
  Calls P own #[.slice (some a) cs.length c] w fun e w' => ∃ b c', e = .returned (.slice (some ⟨b, 0, none⟩) cs.length c') ∧ cs.length ≤ c' ∧ w.heap.size ≤ b ∧ Below w.heap.size w w' ∧ CellsAt w' ⟨b, 0, none⟩ cs
def SameOk (P : Program) (same : FuncId) (good : List Value → Prop) : Prop := ∀ (w : World) (a a2 : Addr) (c c2 : Nat) (cs : List Value), good cs → cs.length ≤ c → cs.length ≤ c2 → CellsAt w a cs → CellsAt w a2 cs →
  Calls P same #[.slice (some a) cs.length c, .slice (some a2) cs.length c2] w fun e w' => e = .returned (.bool true) ∧ Below w.heap.size w w'
def rowOf (H : Heap) (l : Nat) : Option Nat := match H[l]? with
  | some (some (.pending _ i)) => some i
  | _ => none
def rowHook (own same : FuncId) : Hook := fun ro f args H n =>
  if f = own then match args with
    | [.complex k j l] => match rowOf H l with
      | some i => some (.complex k j H.length, H ++ [some (.pending #[] i)], [])
      | none => none
    | _ => none
  else if f = same then match args with
    | [.complex _ _ l, .complex _ _ l2] => match rowOf H l, rowOf H l2 with
      | some i, some i2 => if i = i2 then some (.bool true, H, []) else none
      | _, _ => none
    | _ => none
  else none

theorem row_cells {w0 w : World} {K : Nat → Prop} {ro : Nat → Bool} {β : Env} {H : Heap} (hM : M w0 K ro β H w) {k : FloatKind} {j l i : Nat} {x' : Value} (hl : rowOf H l = some i) (hx : VR β (.complex k j l) x') :
    ∃ a c, x' = .slice (some a) (Sym.row i).length c ∧ (Sym.row i).length ≤ c ∧ Sym.val j = goInt (Sym.row i).length ∧ SymOk j ∧ CellsAt w a (Sym.row i) := by
  have hl : ∃ c, H[l]? = some (some (.pending c i)) := by
    unfold rowOf at hl
    split at hl
    · rename_i c i2 e; cases hl; exact ⟨c, e⟩
    · cases hl
  obtain ⟨cc, hl⟩ := hl
  obtain ⟨p, o', h1, h2, h3⟩ := hM.obj l _ hl
  cases h3 with
  | row hs hr =>
    cases hx with
    | row _ r =>
      obtain ⟨a, n, c, rfl, hn, hv, hk, ⟨q, q1, rfl, rfl⟩ | q1⟩ := r
      · rw [h1] at q1; cases q1
        have hlen : (Sym.row i).length = p.n := by
          rw [← hr, List.length_take, List.length_drop, Array.length_toList]; omega
        exact ⟨⟨p.b, p.s, none⟩, c, by rw [hlen], by rw [hlen]; exact hn, by rw [hlen]; exact hv, hk, ⟨_, _, _, h2, rfl, by rw [hlen]; exact hs, by rw [hlen]; exact hr⟩⟩
      · rw [h1] at q1; cases q1

theorem rowHook_ok {P : Program} {xf : FuncId → Option Outs} {own same : FuncId} {good : List Value → Prop} (h1 : CopyOk P own good) (h2 : SameOk P same good) (hg : ∀ i, good (Sym.row i)) : HookOk ⟨P, rowHook own same, xf⟩ := by
  intro ro f args H n v H' obs h hobs w0 K β w hM args' ha
  simp only [rowHook] at h
  split at h
  · rename_i hf
    subst hf
    split at h
    case h_2 => cases h
    rename_i k j l
    split at h
    case h_2 => cases h
    rename_i i hl
    cases h
    obtain ⟨x', e1, hx⟩ := lsr1 ha
    have e2 : args' = #[x'] := by apply Array.ext'; simpa using e1
    subst e2
    obtain ⟨a, c, rfl, hc, hv, hk, hat⟩ := row_cells hM hl hx
    refine (h1 w a c _ (hg i) hc hat).mono fun e w' hR => ?_
    obtain ⟨b, c', rfl, r1, r2, r3, ⟨cc, t, z, s1, s2, s3, s4⟩⟩ := hR
    have hM' := hM.below r3
    have hbs : b < w'.heap.size := lt_of_heap s1
    refine ⟨_, β ++ [some ⟨b, 0, (Sym.row i).length⟩], rfl, Ext.push _ _, ?_, .row k ⟨⟨b, 0, none⟩, _, c', rfl, r1, hv, hk, .inl ⟨⟨b, 0, (Sym.row i).length⟩, by rw [← hM.len]; simp, rfl, rfl⟩⟩⟩
    refine hM'.put ⟨b, 0, (Sym.row i).length⟩ (.pending #[] i) (.cells cc t z) ⟨rfl, rfl, rfl, Nat.le_refl _, fun _ _ _ => rfl⟩ s1 ?_ ?_ ?_
    · intro l' p hp
      have := hM.lt l' p hp
      show p.b ≠ b
      omega
    · exact .inr (Nat.le_trans hM.size r2)
    · exact .row s3 s4
  · split at h
    · rename_i hf
      subst hf
      split at h
      case h_2 => cases h
      rename_i k j l k2 j2 l2
      split at h
      case h_2 => cases h
      rename_i i i2 hl hl2
      split at h
      case isFalse => cases h
      rename_i hi
      subst hi
      cases h
      obtain ⟨x', y', e1, hx, hy⟩ := lsr2 ha
      have e2 : args' = #[x', y'] := by apply Array.ext'; simpa using e1
      subst e2
      obtain ⟨a, c, rfl, hc, hv, hk, hat⟩ := row_cells hM hl hx
      obtain ⟨a2, c2, rfl, hc2, hv2, hk2, hat2⟩ := row_cells hM hl2 hy
      refine (h2 w a a2 c c2 _ (hg i) hc hc2 hat hat2).mono fun e w' hR => ?_
      exact ⟨_, β, hR.1, Ext.refl β, hM.below hR.2, .bool _⟩
    · cases h
theorem rowHook_kp {own same : FuncId} : HookKp (rowHook own same) := by
  intro ro f args H n v H' obs h
  simp only [rowHook] at h
  repeat' split at h
  all_goals first
    | (cases h; done)
    | (cases h; exact Kp.app _ _ _)
    | (cases h; exact Kp.refl _ _)

/-- one row that came in, and dead labels -/
theorem M.row1 (w : World) (k : Nat) {a : Addr} {cs : List Value} (h : CellsAt w a cs) (hr : Sym.row 0 = cs) (hg : ∀ g, Glob.lab g = none := by exact fun _ => rfl) :
    M w (fun _ => False) (fun l => decide (l < 1)) (some ⟨a.block, a.off, cs.length⟩ :: List.replicate k none) (some (.pending #[] 0) :: List.replicate k none) w := by
  obtain ⟨c, t, z, h1, h2, h3, h4⟩ := h
  have hx : ∀ {α : Type} (y x : α) (l : Nat), (some y :: List.replicate k (none : Option α))[l]? = some (some x) → l = 0 ∧ x = y := fun {α} y x l h => by
    cases l with
    | zero => simp at h; exact ⟨rfl, h.symm⟩
    | succ l =>
      simp only [List.getElem?_cons_succ] at h
      have := List.eq_of_mem_replicate (List.mem_of_getElem? h)
      cases this
  refine ⟨by simp, fun l o hl => ?_, fun l p hl => ?_, fun l l' p p' hl hl' _ => ?_, fun l p hl => .inl ?_, rfl, rfl, rfl, Nat.le_refl _, fun _ _ _ => rfl, fun g l hl => by rw [hg] at hl; cases hl⟩
  · obtain ⟨rfl, rfl⟩ := hx _ _ _ hl
    exact ⟨_, _, rfl, h1, .row h3 (by rw [hr]; exact h4)⟩
  · obtain ⟨rfl, rfl⟩ := hx _ _ _ hl
    exact lt_of_heap h1
  · rw [(hx _ _ _ hl).1, (hx _ _ _ hl').1]
  · rw [(hx _ _ _ hl).1]; rfl
theorem vr_row {β : Env} {k : FloatKind} {j : Nat} {a : Addr} {n c : Nat} (ha : a.spot = none) (hn : n ≤ c) (hv : Sym.val j = goInt n) (hk : Kin.kind j = none) (hβ : β[0]? = some (some ⟨a.block, a.off, n⟩)) : VR β (.complex k j 0) (.slice (some a) n c) := by
  obtain ⟨b, o, s⟩ := a
  cases ha
  exact .row k ⟨_, n, c, rfl, hn, hv, ⟨by rw [hv]; rfl, fun q hq => by rw [hk] at hq; cases hq⟩, .inl ⟨_, hβ, rfl, rfl⟩⟩
end Go.Proofs.YtfmhjggpcapfoaaGreatZev
