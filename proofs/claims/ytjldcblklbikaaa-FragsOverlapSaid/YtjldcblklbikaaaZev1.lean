/- A small world of labels, and how a world is one of it. No condition. -/
import Derived.WalkKit
import Derived.Deep.Draws
import Derived.Deep.MidRow
namespace Go.Proofs.YtjldcblklbikaaaZev
open Go.RowKit
set_option linter.unusedVariables false

/-- where a label lies: its block, from which cell on, how many cells are there -/
structure Spot where
  b : Nat
  s : Nat
  n : Nat
/-- the labels' spots; none: a label that is dead -/
abbrev Env := List (Option Spot)
abbrev Heap := List (Option Obj)

def Ext (β β' : Env) : Prop := ∀ (l : Nat) (x : Option Spot), β[l]? = some x → β'[l]? = some x ∨ β'[l]? = some none

theorem Ext.refl (β : Env) : Ext β β := fun _ _ h => .inl h
theorem Ext.trans {a b c : Env} (h : Ext a b) (k : Ext b c) : Ext a c := fun l x hx => by
  rcases h l x hx with h1 | h1
  · exact k l x h1
  · rcases k l none h1 with h2 | h2 <;> exact .inr h2
theorem Ext.push (β : Env) (x : Option Spot) : Ext β (β ++ [x]) := fun l y hy => .inl (by
  have := (List.getElem?_eq_some_iff.1 hy).1
  rw [List.getElem?_append_left this]; exact hy)
theorem Ext.kill (β : Env) (l : Nat) : Ext β (β.set l none) := fun k y hy => by
  have hk := (List.getElem?_eq_some_iff.1 hy).1
  by_cases e : l = k
  · subst e; right; rw [List.getElem?_set_self hk]
  · left; rw [List.getElem?_set_ne e]; exact hy

def AR (β : Env) (a a' : Addr) : Prop :=
  a.spot = none ∧ ((∃ p : Spot, β[a.block]? = some (some p) ∧ a' = ⟨p.b, p.s + a.off, none⟩) ∨ β[a.block]? = some none)
/-- the number k stands in a slice's room: twice the cells of an element, and one more if there is no room behind its end -/
def SR (β : Env) (a a' : Addr) (n k c' : Nat) : Prop :=
  a.spot = none ∧ n ≤ c' ∧ (k % 2 = 1 → c' = n) ∧
    ((∃ p : Spot, β[a.block]? = some (some p) ∧ a'.block = p.b ∧ a'.spot = none ∧ (a'.off = p.s + a.off ∨ c' = 0) ∧ a.off + c' * (k / 2) ≤ p.n) ∨ β[a.block]? = some none)
def LR (β : Env) (l b : Nat) : Prop := (∃ p : Spot, β[l]? = some (some p) ∧ b = p.b) ∨ β[l]? = some none

/-- a 'chan' stands for a value of one cell of which nothing is known -/
inductive VR (β : Env) : Value → Value → Prop
  | opq (c : Option Nat) {v' : Value} (h : v'.oneCell' = true) : VR β (.chan c) v'
  | bool (b : Bool) : VR β (.bool b) (.bool b)
  | int (k : IntKind) (n : Int) : VR β (.int k n) (.int k n)
  | float (k : FloatKind) (n : Nat) : VR β (.float k n) (.float k n)
  | string (s : ByteArray) : VR β (.string s) (.string s)
  | nilp : VR β (.pointer none) (.pointer none)
  | ptr {a a' : Addr} (h : AR β a a') : VR β (.pointer (some a)) (.pointer (some a'))
  | nils (n c : Nat) : VR β (.slice none n c) (.slice none n c)
  | sl {a a' : Addr} {n k c' : Nat} (h : SR β a a' n k c') : VR β (.slice (some a) n k) (.slice (some a') n c')
  | nilm : VR β (.map none) (.map none)
  | map {l b : Nat} (h : LR β l b) : VR β (.map (some l)) (.map (some b))
  | func {fn : Fn} {f f' c c' : Array Value} (h1 : f.size = f'.size) (h2 : ∀ (i : Nat) (x x' : Value), f[i]? = some x → f'[i]? = some x' → VR β x x')
      (h3 : c.size = c'.size) (h4 : ∀ (i : Nat) (x x' : Value), c[i]? = some x → c'[i]? = some x' → VR β x x') : VR β (.func fn f c) (.func fn f' c')
  | nilf : VR β .nilFunc .nilFunc
  | iface {t : TypeId} {v v' : Value} (h : VR β v v') : VR β (.iface t v) (.iface t v')
  | nili : VR β .nilIface .nilIface
  | agg {c c' : Array Value} (h1 : c.size = c'.size) (h2 : ∀ (i : Nat) (x x' : Value), c[i]? = some x → c'[i]? = some x' → VR β x x') : VR β (.agg c) (.agg c')
  | tuple {c c' : Array Value} (h1 : c.size = c'.size) (h2 : ∀ (i : Nat) (x x' : Value), c[i]? = some x → c'[i]? = some x' → VR β x x') : VR β (.tuple c) (.tuple c')

/-- two lists of values, place by place -/
def LsR (β : Env) (c c' : List Value) : Prop := c.length = c'.length ∧ ∀ (i : Nat) (x x' : Value), c[i]? = some x → c'[i]? = some x' → VR β x x'
def AsR (β : Env) (c c' : Array Value) : Prop := c.size = c'.size ∧ ∀ (i : Nat) (x x' : Value), c[i]? = some x → c'[i]? = some x' → VR β x x'

theorem AsR.toList {β : Env} {c c' : Array Value} (h : AsR β c c') : LsR β c.toList c'.toList := ⟨by simpa using h.1, by simpa using h.2⟩
theorem LsR.toArray {β : Env} {c c' : List Value} (h : LsR β c c') : AsR β c.toArray c'.toArray := ⟨by simpa using h.1, by simpa using h.2⟩

theorem AR.mono {β β' : Env} (h : Ext β β') {a a' : Addr} (k : AR β a a') : AR β' a a' := by
  obtain ⟨h1, ⟨p, h2, h3⟩ | h2⟩ := k
  · rcases h _ _ h2 with h4 | h4
    · exact ⟨h1, .inl ⟨p, h4, h3⟩⟩
    · exact ⟨h1, .inr h4⟩
  · rcases h _ _ h2 with h4 | h4 <;> exact ⟨h1, .inr h4⟩
theorem SR.mono {β β' : Env} (h : Ext β β') {a a' : Addr} {n k c' : Nat} (hs : SR β a a' n k c') : SR β' a a' n k c' := by
  obtain ⟨h1, h0, hk, ⟨p, h2, h3⟩ | h2⟩ := hs
  · rcases h _ _ h2 with h4 | h4
    · exact ⟨h1, h0, hk, .inl ⟨p, h4, h3⟩⟩
    · exact ⟨h1, h0, hk, .inr h4⟩
  · rcases h _ _ h2 with h4 | h4 <;> exact ⟨h1, h0, hk, .inr h4⟩
theorem LR.mono {β β' : Env} (h : Ext β β') {l b : Nat} (k : LR β l b) : LR β' l b := by
  obtain ⟨p, h2, h3⟩ | h2 := k
  · rcases h _ _ h2 with h4 | h4
    · exact .inl ⟨p, h4, h3⟩
    · exact .inr h4
  · rcases h _ _ h2 with h4 | h4 <;> exact .inr h4

theorem VR.mono {β β' : Env} (h : Ext β β') {v v' : Value} (k : VR β v v') : VR β' v v' := by
  induction k with
  | opq c h => exact .opq c h
  | bool => exact .bool _
  | int => exact .int _ _
  | float => exact .float _ _
  | string => exact .string _
  | nilp => exact .nilp
  | ptr k => exact .ptr (k.mono h)
  | nils => exact .nils _ _
  | sl k => exact .sl (k.mono h)
  | nilm => exact .nilm
  | map k => exact .map (k.mono h)
  | func h1 _ h3 _ ih1 ih2 => exact .func h1 ih1 h3 ih2
  | nilf => exact .nilf
  | iface _ ih => exact .iface ih
  | nili => exact .nili
  | agg h1 _ ih => exact .agg h1 ih
  | tuple h1 _ ih => exact .tuple h1 ih
theorem AsR.mono {β β' : Env} (h : Ext β β') {c c' : Array Value} (k : AsR β c c') : AsR β' c c' := ⟨k.1, fun i x x' a b => (k.2 i x x' a b).mono h⟩
theorem LsR.mono {β β' : Env} (h : Ext β β') {c c' : List Value} (k : LsR β c c') : LsR β' c c' := ⟨k.1, fun i x x' a b => (k.2 i x x' a b).mono h⟩

theorem LsR.at {β : Env} {c c' : List Value} (h : LsR β c c') {i : Nat} {x : Value} (hx : c[i]? = some x) : ∃ x', c'[i]? = some x' ∧ VR β x x' := by
  have hi := (List.getElem?_eq_some_iff.1 hx).1
  have hi' : i < c'.length := by rw [← h.1]; exact hi
  exact ⟨c'[i], List.getElem?_eq_getElem hi', h.2 i _ _ hx (List.getElem?_eq_getElem hi')⟩
theorem AsR.at {β : Env} {c c' : Array Value} (h : AsR β c c') {i : Nat} {x : Value} (hx : c[i]? = some x) : ∃ x', c'[i]? = some x' ∧ VR β x x' := by
  have hi := (Array.getElem?_eq_some_iff.1 hx).1
  have hi' : i < c'.size := by rw [← h.1]; exact hi
  exact ⟨c'[i], Array.getElem?_eq_getElem hi', h.2 i _ _ hx (Array.getElem?_eq_getElem hi')⟩

/-- a value of one cell that is nowhere -/
def bare : Value → Bool
  | .bool _ | .int _ _ | .float _ _ | .string _ | .pointer none | .slice none _ _ | .map none | .nilFunc | .nilIface => true
  | _ => false
theorem bare_vr {β : Env} {v : Value} (h : bare v = true) : VR β v v := by
  unfold bare at h
  split at h <;> first | constructor | cases h
theorem bare_eq {β : Env} {v v' : Value} (h : bare v = true) (k : VR β v v') : v' = v := by
  cases k <;> first | rfl | (simp [bare] at h)
/-- a value that is nowhere -/
def still : Value → Bool
  | .agg c => c.all bare
  | .tuple c => c.all bare
  | .func _ f c => f.size == 0 && c.size == 0
  | v => bare v
theorem still_vr {β : Env} {v : Value} (h : still v = true) : VR β v v := by
  unfold still at h
  split at h
  · rename_i c
    exact .agg rfl fun i x x' a b => by
      rw [a] at b; cases b
      exact bare_vr (Array.all_eq_true_iff_forall_mem.1 h x (Array.mem_of_getElem? a))
  · rename_i c
    exact .tuple rfl fun i x x' a b => by
      rw [a] at b; cases b
      exact bare_vr (Array.all_eq_true_iff_forall_mem.1 h x (Array.mem_of_getElem? a))
  · rename_i f c
    simp only [Bool.and_eq_true, beq_iff_eq] at h
    refine .func rfl (fun i x x' a b => ?_) rfl (fun i x x' a b => ?_)
    · rw [Array.getElem?_eq_none (by omega)] at a; cases a
    · rw [Array.getElem?_eq_none (by omega)] at a; cases a
  · exact bare_vr h
theorem all_bare_asr {β : Env} {c : Array Value} (h : c.all bare = true) : AsR β c c :=
  ⟨rfl, fun i x x' a b => by rw [a] at b; cases b; exact bare_vr (Array.all_eq_true_iff_forall_mem.1 h x (Array.mem_of_getElem? a))⟩
theorem still_eq {β : Env} {v v' : Value} (h : still v = true) (k : VR β v v') : v' = v := by
  cases k with
  | agg h1 h2 =>
    congr 1
    apply Array.ext_getElem?
    intro i
    rename_i c c'
    rcases Nat.lt_or_ge i c.size with hi | hi
    · have hi' : i < c'.size := by omega
      have := h2 i _ _ (Array.getElem?_eq_getElem hi) (Array.getElem?_eq_getElem hi')
      have hb : bare c[i] = true := Array.all_eq_true_iff_forall_mem.1 h _ (Array.getElem_mem hi)
      rw [Array.getElem?_eq_getElem hi, Array.getElem?_eq_getElem hi', bare_eq hb this]
    · rw [Array.getElem?_eq_none hi, Array.getElem?_eq_none (by omega)]
  | tuple h1 h2 =>
    congr 1
    apply Array.ext_getElem?
    intro i
    rename_i c c'
    rcases Nat.lt_or_ge i c.size with hi | hi
    · have hi' : i < c'.size := by omega
      have := h2 i _ _ (Array.getElem?_eq_getElem hi) (Array.getElem?_eq_getElem hi')
      have hb : bare c[i] = true := Array.all_eq_true_iff_forall_mem.1 h _ (Array.getElem_mem hi)
      rw [Array.getElem?_eq_getElem hi, Array.getElem?_eq_getElem hi', bare_eq hb this]
    · rw [Array.getElem?_eq_none hi, Array.getElem?_eq_none (by omega)]
  | func h1 h2 h3 h4 =>
    rename_i fn f f' c c'
    simp only [still, Bool.and_eq_true, beq_iff_eq] at h
    have e1 : f = #[] := Array.eq_empty_of_size_eq_zero h.1
    have e2 : c = #[] := Array.eq_empty_of_size_eq_zero h.2
    have e3 : f' = #[] := Array.eq_empty_of_size_eq_zero (by omega)
    have e4 : c' = #[] := Array.eq_empty_of_size_eq_zero (by omega)
    rw [e1, e2, e3, e4]
  | _ => first | rfl | (simp [still, bare] at h)

/-! ### blocks -/
structure CR (β : Env) (p : Spot) (c c' : Array Value) (fz : Nat × Nat) : Prop where
  size : p.s + p.n ≤ c'.size
  le : c.size ≤ p.n
  at_ : ∀ (i : Nat) (x : Value), c[i]? = some x → ∃ x', c'[p.s + i]? = some x' ∧ VR β x x'
  fz : ∀ i, i < p.n → ¬ (fz.1 ≤ p.s + i ∧ p.s + i < fz.2)

inductive OR (β : Env) (p : Spot) : Obj → Obj → Prop
  | cells {c c' : Array Value} {t t' : TypeId} {z fz : Nat × Nat} (h : CR β p c c' fz) (hz : z = (0, 0) → fz = (0, 0)) : OR β p (.cells c t z) (.cells c' t' fz)
  | map {es es' : Array MapEntry} {k : Nat} (h1 : es.size = es'.size) (h2 : ∀ (i : Nat) (e e' : MapEntry), es[i]? = some e → es'[i]? = some e' → e'.born = e.born ∧ VR β e.key e'.key ∧ VR β e.val e'.val) : OR β p (.map es k) (.map es' k)
  | mapIter {l b since last : Nat} {seen : Array Nat} (hs : p.s = 0) (h : LR β l b) : OR β p (.mapIter (some l) since seen last) (.mapIter (some b) since seen last)
  | mapIterN {since last : Nat} {seen : Array Nat} (hs : p.s = 0) : OR β p (.mapIter none since seen last) (.mapIter none since seen last)
  | stringIter (s : ByteArray) (k : Nat) (hs : p.s = 0) : OR β p (.stringIter s k) (.stringIter s k)

theorem CR.mono {β β' : Env} (h : Ext β β') {p : Spot} {c c' : Array Value} {fz : Nat × Nat} (k : CR β p c c' fz) : CR β' p c c' fz :=
  ⟨k.size, k.le, fun i x hx => let ⟨x', a, b⟩ := k.at_ i x hx; ⟨x', a, b.mono h⟩, k.fz⟩
theorem OR.mono {β β' : Env} (h : Ext β β') {p : Spot} {o o' : Obj} (k : OR β p o o') : OR β' p o o' := by
  cases k with
  | cells k hz => exact .cells (k.mono h) hz
  | map h1 h2 => exact .map h1 fun i e e' a b => let ⟨x, y, z⟩ := h2 i e e' a b; ⟨x, y.mono h, z.mono h⟩
  | mapIter hs k => exact .mapIter hs (k.mono h)
  | mapIterN hs => exact .mapIterN hs
  | stringIter _ _ hs => exact .stringIter _ _ hs

/-! ### worlds -/
structure M (w0 : World) (K : Nat → Prop) (ro : Nat → Bool) (β : Env) (H : Heap) (w : World) : Prop where
  len : β.length = H.length
  obj : ∀ (l : Nat) (o : Obj), H[l]? = some (some o) → ∃ p o', β[l]? = some (some p) ∧ w.heap[p.b]? = some o' ∧ OR β p o o'
  lt : ∀ (l : Nat) (p : Spot), β[l]? = some (some p) → p.b < w.heap.size
  inj : ∀ (l l' : Nat) (p p' : Spot), β[l]? = some (some p) → β[l']? = some (some p') → p.b = p'.b → l = l'
  own : ∀ (l : Nat) (p : Spot), β[l]? = some (some p) → ro l = true ∨ K p.b ∨ w0.heap.size ≤ p.b
  os : w.os = w0.os
  tape : w.tape = w0.tape
  output : w.output = w0.output
  size : w0.heap.size ≤ w.heap.size
  block : ∀ (k : Nat), k < w0.heap.size → ¬ K k → w.heap[k]? = w0.heap[k]?

/-- w1 is w but for block b -/
structure Chg (b : Nat) (w w1 : World) : Prop where
  os : w1.os = w.os
  tape : w1.tape = w.tape
  output : w1.output = w.output
  size : w.heap.size ≤ w1.heap.size
  block : ∀ (k : Nat), k < w.heap.size → k ≠ b → w1.heap[k]? = w.heap[k]?

theorem lt_of_heap {w : World} {b : Nat} {o : Obj} (h : w.heap[b]? = some o) : b < w.heap.size := (Array.getElem?_eq_some_iff.1 h).1

section
variable {w0 w w1 : World} {K : Nat → Prop} {ro : Nat → Bool} {β : Env} {H : Heap}

theorem M.of_heap (h : M w0 K ro β H w) (e1 : w1.heap = w.heap) (e2 : w1.os = w.os) (e3 : w1.tape = w.tape) (e4 : w1.output = w.output) : M w0 K ro β H w1 :=
  ⟨h.len, by rw [e1]; exact h.obj, by rw [e1]; exact h.lt, h.inj, h.own, e2.trans h.os, e3.trans h.tape, e4.trans h.output, by rw [e1]; exact h.size, by rw [e1]; exact h.block⟩
theorem M.drew (h : M w0 K ro β H w) : M w0 K ro β H w.drew := h.of_heap rfl rfl rfl rfl

theorem M.put (h : M w0 K ro β H w) (q : Spot) (o o' : Obj) (hw : Chg q.b w w1) (hq : w1.heap[q.b]? = some o')
    (hne : ∀ (l : Nat) (p : Spot), β[l]? = some (some p) → p.b ≠ q.b) (hown : K q.b ∨ w0.heap.size ≤ q.b) (hor : OR (β ++ [some q]) q o o') :
    M w0 K ro (β ++ [some q]) (H ++ [some o]) w1 := by
  have hx : ∀ (l : Nat) (p : Spot), (β ++ [some q])[l]? = some (some p) → (β[l]? = some (some p)) ∨ (l = β.length ∧ p = q) := by
    intro l p hl
    rcases Nat.lt_or_ge l β.length with h1 | h1
    · rw [List.getElem?_append_left h1] at hl; exact .inl hl
    · rw [List.getElem?_append_right h1] at hl
      rcases Nat.eq_or_lt_of_le h1 with h2 | h2
      · rw [← h2] at hl; simp at hl; exact .inr ⟨h2.symm, hl.symm⟩
      · rw [List.getElem?_eq_none (by simp; omega)] at hl; cases hl
  refine ⟨by simp [h.len], fun l ob hl => ?_, fun l p hl => ?_, fun l l' p p' a b e => ?_, fun l p hl => ?_, hw.os.trans h.os, hw.tape.trans h.tape, hw.output.trans h.output, Nat.le_trans h.size hw.size, fun k hk hK => ?_⟩
  · rcases Nat.lt_or_ge l H.length with h1 | h1
    · rw [List.getElem?_append_left h1] at hl
      obtain ⟨p, ob', a, b, c⟩ := h.obj l ob hl
      exact ⟨p, ob', by rw [List.getElem?_append_left (by rw [h.len]; exact h1)]; exact a, by rw [hw.block _ (lt_of_heap b) (hne l p a)]; exact b, c.mono (Ext.push _ _)⟩
    · rw [List.getElem?_append_right h1] at hl
      rcases Nat.eq_or_lt_of_le h1 with h2 | h2
      · rw [← h2] at hl; simp at hl; subst hl
        exact ⟨q, o', by rw [← h2, List.getElem?_append_right (by rw [h.len]; exact Nat.le_refl _)]; simp [h.len], hq, hor⟩
      · rw [List.getElem?_eq_none (by simp; omega)] at hl; cases hl
  · rcases hx l p hl with h1 | ⟨_, h2⟩
    · exact Nat.lt_of_lt_of_le (h.lt l p h1) hw.size
    · rw [h2]; exact lt_of_heap hq
  · rcases hx l p a with h1 | ⟨h1, h2⟩ <;> rcases hx l' p' b with h3 | ⟨h3, h4⟩
    · exact h.inj l l' p p' h1 h3 e
    · rw [h4] at e; exact absurd e (hne l p h1)
    · rw [h2] at e; exact absurd e.symm (hne l' p' h3)
    · rw [h1, h3]
  · rcases hx l p hl with h1 | ⟨_, h2⟩
    · exact h.own l p h1
    · rw [h2]; exact .inr hown
  · rw [hw.block k (Nat.lt_of_lt_of_le hk h.size) ?_]
    · exact h.block k hk hK
    · intro e
      rcases hown with h1 | h1
      · rw [← e] at h1; exact hK h1
      · omega

theorem Chg.alloc (w : World) (o : Obj) : Chg w.heap.size w (w.alloc o) :=
  ⟨rfl, rfl, rfl, by simp, fun k hk _ => Below.heap_alloc w o k hk⟩

theorem M.alloc (h : M w0 K ro β H w) (n : Nat) (o o' : Obj) (hor : OR (β ++ [some ⟨w.heap.size, 0, n⟩]) ⟨w.heap.size, 0, n⟩ o o') :
    M w0 K ro (β ++ [some ⟨w.heap.size, 0, n⟩]) (H ++ [some o]) (w.alloc o') :=
  h.put ⟨w.heap.size, 0, n⟩ o o' (Chg.alloc w o') (by show (w.heap.push o')[w.heap.size]? = some o'; simp) (fun l p hl => Nat.ne_of_lt (h.lt l p hl)) (.inr h.size) hor

theorem M.turn (h : M w0 K ro β H w) {l : Nat} {p : Spot} (hl : β[l]? = some (some p)) (hro : ro l = false) (o o' : Obj) (hw : Chg p.b w w1) (hq : w1.heap[p.b]? = some o') (hor : OR β p o o') :
    M w0 K ro β (H.set l (some o)) w1 := by
  refine ⟨by simp [h.len], fun k ob hk => ?_, fun k p hk => Nat.lt_of_lt_of_le (h.lt k p hk) hw.size, h.inj, h.own, hw.os.trans h.os, hw.tape.trans h.tape, hw.output.trans h.output, Nat.le_trans h.size hw.size, fun k hk hK => ?_⟩
  · by_cases e : l = k
    · subst e
      have hlt : l < H.length := by rw [← h.len]; exact (List.getElem?_eq_some_iff.1 hl).1
      rw [List.getElem?_set_self hlt] at hk; cases hk
      exact ⟨p, o', hl, hq, hor⟩
    · rw [List.getElem?_set_ne e] at hk
      obtain ⟨q, ob', a, b, c⟩ := h.obj k ob hk
      exact ⟨q, ob', a, by rw [hw.block _ (lt_of_heap b) (fun e2 => e (h.inj _ _ _ _ hl a e2.symm))]; exact b, c⟩
  · rw [hw.block k (Nat.lt_of_lt_of_le hk h.size) ?_]
    · exact h.block k hk hK
    · intro e
      rcases h.own l p hl with h1 | h1 | h1
      · rw [hro] at h1; cases h1
      · rw [← e] at h1; exact hK h1
      · omega

theorem M.kill (h : M w0 K ro β H w) (l : Nat) : M w0 K ro (β.set l none) (H.set l none) w := by
  have hx : ∀ (k : Nat) (p : Spot), (β.set l none)[k]? = some (some p) → k ≠ l ∧ β[k]? = some (some p) := by
    intro k p hk
    by_cases e : l = k
    · subst e
      have hlt : l < β.length := by have := (List.getElem?_eq_some_iff.1 hk).1; simpa using this
      rw [List.getElem?_set_self hlt] at hk; cases hk
    · rw [List.getElem?_set_ne e] at hk; exact ⟨fun e2 => e e2.symm, hk⟩
  refine ⟨by simp [h.len], fun k ob hk => ?_, fun k p hk => h.lt k p (hx k p hk).2, fun k k' p p' a b e => h.inj _ _ _ _ (hx k p a).2 (hx k' p' b).2 e, fun k p hk => h.own k p (hx k p hk).2, h.os, h.tape, h.output, h.size, h.block⟩
  · by_cases e : l = k
    · subst e
      have hlt : l < H.length := by have := (List.getElem?_eq_some_iff.1 hk).1; simpa using this
      rw [List.getElem?_set_self hlt] at hk; cases hk
    · rw [List.getElem?_set_ne e] at hk
      obtain ⟨q, ob', a, b, c⟩ := h.obj k ob hk
      exact ⟨q, ob', by rw [List.getElem?_set_ne e]; exact a, b, c.mono (Ext.kill _ _)⟩
end
end Go.Proofs.YtjldcblklbikaaaZev
