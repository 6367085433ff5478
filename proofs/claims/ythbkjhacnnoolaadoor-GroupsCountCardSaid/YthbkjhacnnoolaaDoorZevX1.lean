/- Several texts in one: Zev1, Zev2, Zev3, ZevS, Zev4, Zev5, Zev6. No condition beyond those that each part names. -/
import Derived.WalkKit
import Derived.Deep.Draws
import Derived.Deep.MidRow
/- A small world of labels, and how a world is one of it. No condition. -/
section
namespace Go.Proofs.YthbkjhacnnoolaaDoorZev
open Go.RowKit
set_option linter.unusedVariables false
set_option linter.unusedSectionVars false

/-- what the symbols stand for; what is supposed of values by those who tell of calls -/
class Sym where
  val : Nat → Value
  hyp : Nat → List Value → Prop
  row : Nat → List Value
  mem : Nat → Option Obj
  told : Nat → Nat → Nat → Obj → Prop
/-- symbols that are known to be whole numbers -/
class Kin where
  kind : Nat → Option IntKind
/-- which package variables have a label -/
class Glob where
  lab : Nat → Option Nat
variable [Sym] [Kin] [Glob]

/-- where a label lies: its block, from which cell on, how many cells are there -/
structure Spot where
  b : Nat
  s : Nat
  n : Nat
/-- the labels' spots; none: a label that is dead -/
abbrev Env := List (Option Spot)
abbrev Heap := List (Option Obj)

def Ext (β β' : Env) : Prop := ∀ (l : Nat) (x : Option Spot), β[l]? = some x → β'[l]? = some x ∨ β'[l]? = some none

theorem Ext.refl (β : Env) : Ext β β := fun _ _ h => .inl h
theorem Ext.trans {a b c : Env} (h : Ext a b) (k : Ext b c) : Ext a c := fun l x hx => by
  rcases h l x hx with h1 | h1
  · exact k l x h1
  · rcases k l none h1 with h2 | h2 <;> exact .inr h2
theorem Ext.push (β : Env) (x : Option Spot) : Ext β (β ++ [x]) := fun l y hy => .inl (by
  have := (List.getElem?_eq_some_iff.1 hy).1
  rw [List.getElem?_append_left this]; exact hy)
theorem Ext.kill (β : Env) (l : Nat) : Ext β (β.set l none) := fun k y hy => by
  have hk := (List.getElem?_eq_some_iff.1 hy).1
  by_cases e : l = k
  · subst e; right; rw [List.getElem?_set_self hk]
  · left; rw [List.getElem?_set_ne e]; exact hy

def AR (β : Env) (a a' : Addr) : Prop :=
  a.spot = none ∧ ((∃ p : Spot, β[a.block]? = some (some p) ∧ a' = ⟨p.b, p.s + a.off, none⟩) ∨ β[a.block]? = some none)
/-- the number k stands in a slice's room: twice the cells of an element, and one more if there is no room behind its end -/
def SR (β : Env) (a a' : Addr) (n k c' : Nat) : Prop :=
  a.spot = none ∧ n ≤ c' ∧ (k % 2 = 1 → c' = n) ∧
    ((∃ p : Spot, β[a.block]? = some (some p) ∧ a'.block = p.b ∧ a'.spot = none ∧ (a'.off = p.s + a.off ∨ c' = 0) ∧ a.off + c' * (k / 2) ≤ p.n) ∨ β[a.block]? = some none)
def LR (β : Env) (l b : Nat) : Prop := (∃ p : Spot, β[l]? = some (some p) ∧ b = p.b) ∨ β[l]? = some none

/-- a function's value that is no loop's -/
def calmFn : Fn → Bool
  | .yield _ => false
  | _ => true
/-- what a symbol stands for fits one cell, and is a whole number where that is known -/
def SymOk (i : Nat) : Prop := (Sym.val i).oneCell' = true ∧ ∀ k, Kin.kind i = some k → ∃ n, Sym.val i = .int k n

/-- a slice whose cells are a label's, all of them; how many, the symbol j tells -/
def RowR (β : Env) (j l : Nat) (v' : Value) : Prop := ∃ (a : Addr) (n c : Nat), v' = .slice (some a) n c ∧ n ≤ c ∧ Sym.val j = goInt n ∧ SymOk j ∧ ((∃ p : Spot, β[l]? = some (some p) ∧ a = ⟨p.b, p.s, none⟩ ∧ n = p.n) ∨ β[l]? = some none)
theorem RowR.mono {β β' : Env} (h : Ext β β') {j l : Nat} {v' : Value} (k : RowR β j l v') : RowR β' j l v' := by
  obtain ⟨a, n, c, h1, h2, h3, h4, ⟨p, h5, h6⟩ | h5⟩ := k
  · rcases h _ _ h5 with h7 | h7
    · exact ⟨a, n, c, h1, h2, h3, h4, .inl ⟨p, h7, h6⟩⟩
    · exact ⟨a, n, c, h1, h2, h3, h4, .inr h7⟩
  · rcases h _ _ h5 with h7 | h7 <;> exact ⟨a, n, c, h1, h2, h3, h4, .inr h7⟩

theorem RowR.one {β : Env} {j l : Nat} {v' : Value} (k : RowR β j l v') : v'.oneCell' = true := by
  obtain ⟨a, n, c, rfl, _⟩ := k; rfl
theorem RowR.cells {β : Env} {j l : Nat} {v' : Value} (k : RowR β j l v') : v'.cells = #[v'] := by
  obtain ⟨a, n, c, rfl, _⟩ := k; rfl
/-- a 'chan' stands for a value of one cell: of which nothing is known, or that a symbol names -/
inductive VR (β : Env) : Value → Value → Prop
  | opq {v' : Value} (h : v'.oneCell' = true) : VR β (.chan none) v'
  | sym (i : Nat) {v' : Value} (e : v' = Sym.val i) (h : v'.oneCell' = true) (hk : SymOk i) : VR β (.chan (some i)) v'
  | row (k : FloatKind) {j l : Nat} {v' : Value} (h : RowR β j l v') : VR β (.complex k j l) v'
  | bool (b : Bool) : VR β (.bool b) (.bool b)
  | int (k : IntKind) (n : Int) : VR β (.int k n) (.int k n)
  | float (k : FloatKind) (n : Nat) : VR β (.float k n) (.float k n)
  | string (s : ByteArray) : VR β (.string s) (.string s)
  | nilp : VR β (.pointer none) (.pointer none)
  | ptr {a a' : Addr} (h : AR β a a') : VR β (.pointer (some a)) (.pointer (some a'))
  | nils (n c : Nat) : VR β (.slice none n c) (.slice none n c)
  | sl {a a' : Addr} {n k c' : Nat} (h : SR β a a' n k c') : VR β (.slice (some a) n k) (.slice (some a') n c')
  | nilm : VR β (.map none) (.map none)
  | map {l b : Nat} (h : LR β l b) : VR β (.map (some l)) (.map (some b))
  | yld {l b : Nat} (h : LR β l b) : VR β (.func (.yield l) #[] #[]) (.func (.yield b) #[] #[])
  | func {fn : Fn} {f f' c c' : Array Value} (h0 : calmFn fn = true) (h1 : f.size = f'.size) (h2 : ∀ (i : Nat) (x x' : Value), f[i]? = some x → f'[i]? = some x' → VR β x x')
      (h3 : c.size = c'.size) (h4 : ∀ (i : Nat) (x x' : Value), c[i]? = some x → c'[i]? = some x' → VR β x x') : VR β (.func fn f c) (.func fn f' c')
  | nilf : VR β .nilFunc .nilFunc
  | iface {t : TypeId} {v v' : Value} (h : VR β v v') : VR β (.iface t v) (.iface t v')
  | nili : VR β .nilIface .nilIface
  | agg {c c' : Array Value} (h1 : c.size = c'.size) (h2 : ∀ (i : Nat) (x x' : Value), c[i]? = some x → c'[i]? = some x' → VR β x x') : VR β (.agg c) (.agg c')
  | tuple {c c' : Array Value} (h1 : c.size = c'.size) (h2 : ∀ (i : Nat) (x x' : Value), c[i]? = some x → c'[i]? = some x' → VR β x x') : VR β (.tuple c) (.tuple c')

/-- two lists of values, place by place -/
def LsR (β : Env) (c c' : List Value) : Prop := c.length = c'.length ∧ ∀ (i : Nat) (x x' : Value), c[i]? = some x → c'[i]? = some x' → VR β x x'
def AsR (β : Env) (c c' : Array Value) : Prop := c.size = c'.size ∧ ∀ (i : Nat) (x x' : Value), c[i]? = some x → c'[i]? = some x' → VR β x x'

theorem AsR.toList {β : Env} {c c' : Array Value} (h : AsR β c c') : LsR β c.toList c'.toList := ⟨by simpa using h.1, by simpa using h.2⟩
theorem LsR.toArray {β : Env} {c c' : List Value} (h : LsR β c c') : AsR β c.toArray c'.toArray := ⟨by simpa using h.1, by simpa using h.2⟩

theorem AR.mono {β β' : Env} (h : Ext β β') {a a' : Addr} (k : AR β a a') : AR β' a a' := by
  obtain ⟨h1, ⟨p, h2, h3⟩ | h2⟩ := k
  · rcases h _ _ h2 with h4 | h4
    · exact ⟨h1, .inl ⟨p, h4, h3⟩⟩
    · exact ⟨h1, .inr h4⟩
  · rcases h _ _ h2 with h4 | h4 <;> exact ⟨h1, .inr h4⟩
theorem SR.mono {β β' : Env} (h : Ext β β') {a a' : Addr} {n k c' : Nat} (hs : SR β a a' n k c') : SR β' a a' n k c' := by
  obtain ⟨h1, h0, hk, ⟨p, h2, h3⟩ | h2⟩ := hs
  · rcases h _ _ h2 with h4 | h4
    · exact ⟨h1, h0, hk, .inl ⟨p, h4, h3⟩⟩
    · exact ⟨h1, h0, hk, .inr h4⟩
  · rcases h _ _ h2 with h4 | h4 <;> exact ⟨h1, h0, hk, .inr h4⟩
theorem LR.mono {β β' : Env} (h : Ext β β') {l b : Nat} (k : LR β l b) : LR β' l b := by
  obtain ⟨p, h2, h3⟩ | h2 := k
  · rcases h _ _ h2 with h4 | h4
    · exact .inl ⟨p, h4, h3⟩
    · exact .inr h4
  · rcases h _ _ h2 with h4 | h4 <;> exact .inr h4

theorem VR.mono {β β' : Env} (h : Ext β β') {v v' : Value} (k : VR β v v') : VR β' v v' := by
  induction k with
  | opq h => exact .opq h
  | sym i e h hk => exact .sym i e h hk
  | row k h1 => exact .row k (h1.mono h)
  | bool => exact .bool _
  | int => exact .int _ _
  | float => exact .float _ _
  | string => exact .string _
  | nilp => exact .nilp
  | ptr k => exact .ptr (k.mono h)
  | nils => exact .nils _ _
  | sl k => exact .sl (k.mono h)
  | nilm => exact .nilm
  | map k => exact .map (k.mono h)
  | yld k => exact .yld (k.mono h)
  | func h0 h1 _ h3 _ ih1 ih2 => exact .func h0 h1 ih1 h3 ih2
  | nilf => exact .nilf
  | iface _ ih => exact .iface ih
  | nili => exact .nili
  | agg h1 _ ih => exact .agg h1 ih
  | tuple h1 _ ih => exact .tuple h1 ih
theorem AsR.mono {β β' : Env} (h : Ext β β') {c c' : Array Value} (k : AsR β c c') : AsR β' c c' := ⟨k.1, fun i x x' a b => (k.2 i x x' a b).mono h⟩
theorem LsR.mono {β β' : Env} (h : Ext β β') {c c' : List Value} (k : LsR β c c') : LsR β' c c' := ⟨k.1, fun i x x' a b => (k.2 i x x' a b).mono h⟩

theorem LsR.at {β : Env} {c c' : List Value} (h : LsR β c c') {i : Nat} {x : Value} (hx : c[i]? = some x) : ∃ x', c'[i]? = some x' ∧ VR β x x' := by
  have hi := (List.getElem?_eq_some_iff.1 hx).1
  have hi' : i < c'.length := by rw [← h.1]; exact hi
  exact ⟨c'[i], List.getElem?_eq_getElem hi', h.2 i _ _ hx (List.getElem?_eq_getElem hi')⟩
theorem AsR.at {β : Env} {c c' : Array Value} (h : AsR β c c') {i : Nat} {x : Value} (hx : c[i]? = some x) : ∃ x', c'[i]? = some x' ∧ VR β x x' := by
  have hi := (Array.getElem?_eq_some_iff.1 hx).1
  have hi' : i < c'.size := by rw [← h.1]; exact hi
  exact ⟨c'[i], Array.getElem?_eq_getElem hi', h.2 i _ _ hx (Array.getElem?_eq_getElem hi')⟩

/-- a value of one cell that is nowhere -/
def bare : Value → Bool
  | .bool _ | .int _ _ | .float _ _ | .string _ | .pointer none | .slice none _ _ | .map none | .nilFunc | .nilIface => true
  | _ => false
theorem bare_vr {β : Env} {v : Value} (h : bare v = true) : VR β v v := by
  unfold bare at h
  split at h <;> first | constructor | cases h
theorem bare_eq {β : Env} {v v' : Value} (h : bare v = true) (k : VR β v v') : v' = v := by
  cases k <;> first | rfl | (simp [bare] at h)
/-- a value that is nowhere -/
def still : Value → Bool
  | .agg c => c.all bare
  | .tuple c => c.all bare
  | .func fn f c => calmFn fn && (f.size == 0 && c.size == 0)
  | v => bare v
theorem still_vr {β : Env} {v : Value} (h : still v = true) : VR β v v := by
  unfold still at h
  split at h
  · rename_i c
    exact .agg rfl fun i x x' a b => by
      rw [a] at b; cases b
      exact bare_vr (Array.all_eq_true_iff_forall_mem.1 h x (Array.mem_of_getElem? a))
  · rename_i c
    exact .tuple rfl fun i x x' a b => by
      rw [a] at b; cases b
      exact bare_vr (Array.all_eq_true_iff_forall_mem.1 h x (Array.mem_of_getElem? a))
  · rename_i f c
    simp only [Bool.and_eq_true, beq_iff_eq] at h
    obtain ⟨h0, h⟩ := h
    refine .func h0 rfl (fun i x x' a b => ?_) rfl (fun i x x' a b => ?_)
    · rw [Array.getElem?_eq_none (by omega)] at a; cases a
    · rw [Array.getElem?_eq_none (by omega)] at a; cases a
  · exact bare_vr h
theorem all_bare_asr {β : Env} {c : Array Value} (h : c.all bare = true) : AsR β c c :=
  ⟨rfl, fun i x x' a b => by rw [a] at b; cases b; exact bare_vr (Array.all_eq_true_iff_forall_mem.1 h x (Array.mem_of_getElem? a))⟩
theorem still_eq {β : Env} {v v' : Value} (h : still v = true) (k : VR β v v') : v' = v := by
  cases k with
  | agg h1 h2 =>
    congr 1
    apply Array.ext_getElem?
    intro i
    rename_i c c'
    rcases Nat.lt_or_ge i c.size with hi | hi
    · have hi' : i < c'.size := by omega
      have := h2 i _ _ (Array.getElem?_eq_getElem hi) (Array.getElem?_eq_getElem hi')
      have hb : bare c[i] = true := Array.all_eq_true_iff_forall_mem.1 h _ (Array.getElem_mem hi)
      rw [Array.getElem?_eq_getElem hi, Array.getElem?_eq_getElem hi', bare_eq hb this]
    · rw [Array.getElem?_eq_none hi, Array.getElem?_eq_none (by omega)]
  | tuple h1 h2 =>
    congr 1
    apply Array.ext_getElem?
    intro i
    rename_i c c'
    rcases Nat.lt_or_ge i c.size with hi | hi
    · have hi' : i < c'.size := by omega
      have := h2 i _ _ (Array.getElem?_eq_getElem hi) (Array.getElem?_eq_getElem hi')
      have hb : bare c[i] = true := Array.all_eq_true_iff_forall_mem.1 h _ (Array.getElem_mem hi)
      rw [Array.getElem?_eq_getElem hi, Array.getElem?_eq_getElem hi', bare_eq hb this]
    · rw [Array.getElem?_eq_none hi, Array.getElem?_eq_none (by omega)]
  | yld k => simp [still, calmFn] at h
  | func h0 h1 h2 h3 h4 =>
    rename_i fn f f' c c'
    simp only [still, Bool.and_eq_true, beq_iff_eq] at h
    replace h := h.2
    have e1 : f = #[] := Array.eq_empty_of_size_eq_zero h.1
    have e2 : c = #[] := Array.eq_empty_of_size_eq_zero h.2
    have e3 : f' = #[] := Array.eq_empty_of_size_eq_zero (by omega)
    have e4 : c' = #[] := Array.eq_empty_of_size_eq_zero (by omega)
    rw [e1, e2, e3, e4]
  | _ => first | rfl | (simp [still, bare] at h)

/-! ### blocks -/
structure CR (β : Env) (p : Spot) (c c' : Array Value) (fz : Nat × Nat) : Prop where
  size : p.s + p.n ≤ c'.size
  le : c.size ≤ p.n
  at_ : ∀ (i : Nat) (x : Value), c[i]? = some x → ∃ x', c'[p.s + i]? = some x' ∧ VR β x x'
  fz : ∀ i, i < p.n → ¬ (fz.1 ≤ p.s + i ∧ p.s + i < fz.2)

inductive OR (β : Env) (p : Spot) : Obj → Obj → Prop
  | cells {c c' : Array Value} {t t' : TypeId} {z fz : Nat × Nat} (h : CR β p c c' fz) (hz : z = (0, 0) → fz = (0, 0)) : OR β p (.cells c t z) (.cells c' t' fz)
  | map {es es' : Array MapEntry} {k : Nat} (h1 : es.size = es'.size) (h2 : ∀ (i : Nat) (e e' : MapEntry), es[i]? = some e → es'[i]? = some e' → e'.born = e.born ∧ VR β e.key e'.key ∧ VR β e.val e'.val) : OR β p (.map es k) (.map es' k)
  | mapIter {l b since last : Nat} {seen : Array Nat} (hs : p.s = 0) (h : LR β l b) : OR β p (.mapIter (some l) since seen last) (.mapIter (some b) since seen last)
  | mapIterN {since last : Nat} {seen : Array Nat} (hs : p.s = 0) : OR β p (.mapIter none since seen last) (.mapIter none since seen last)
  | loop {r : Loop} {t' : Array Value} {fn d : Nat} (hs : p.s = 0) (h : AsR β r.tmps t') : OR β p (.loop r) (.loop { r with tmps := t', fn := fn, defers := d })
  | deferred {d : Option (List Deferred)} (hs : p.s = 0) (h : d = none ∨ d = some []) : OR β p (.deferred d) (.deferred d)
  | row {c c' : Array Value} {i : Nat} {t' : TypeId} {fz : Nat × Nat} (hs : p.s + p.n ≤ c'.size) (h : (c'.toList.drop p.s).take p.n = Sym.row i) : OR β p (.pending c i) (.cells c' t' fz)
  | told {i : Nat} {t : TypeId} {o' : Obj} (h : Sym.told i p.s p.n o') : OR β p (.view ⟨i, 0, none⟩ t) o'
  | stringIter (s : ByteArray) (k : Nat) (hs : p.s = 0) : OR β p (.stringIter s k) (.stringIter s k)

theorem CR.mono {β β' : Env} (h : Ext β β') {p : Spot} {c c' : Array Value} {fz : Nat × Nat} (k : CR β p c c' fz) : CR β' p c c' fz :=
  ⟨k.size, k.le, fun i x hx => let ⟨x', a, b⟩ := k.at_ i x hx; ⟨x', a, b.mono h⟩, k.fz⟩
theorem OR.mono {β β' : Env} (h : Ext β β') {p : Spot} {o o' : Obj} (k : OR β p o o') : OR β' p o o' := by
  cases k with
  | cells k hz => exact .cells (k.mono h) hz
  | map h1 h2 => exact .map h1 fun i e e' a b => let ⟨x, y, z⟩ := h2 i e e' a b; ⟨x, y.mono h, z.mono h⟩
  | mapIter hs k => exact .mapIter hs (k.mono h)
  | mapIterN hs => exact .mapIterN hs
  | loop hs k => exact .loop hs (k.mono h)
  | deferred hs k => exact .deferred hs k
  | row hs h => exact .row hs h
  | told h => exact .told h
  | stringIter _ _ hs => exact .stringIter _ _ hs

/-! ### worlds -/
/-- a package variable's label lies at its block, or is dead -/
def GlobOk (β : Env) : Prop := ∀ g l, Glob.lab g = some l → (∃ n, β[l]? = some (some ⟨g, 0, n⟩)) ∨ β[l]? = some none
theorem GlobOk.ext {β β' : Env} (h : GlobOk β) (e : Ext β β') : GlobOk β' := fun g l hl => by
  rcases h g l hl with ⟨n, h1⟩ | h1
  · rcases e _ _ h1 with h2 | h2
    · exact .inl ⟨n, h2⟩
    · exact .inr h2
  · rcases e _ _ h1 with h2 | h2 <;> exact .inr h2
structure M (w0 : World) (K : Nat → Prop) (ro : Nat → Bool) (β : Env) (H : Heap) (w : World) : Prop where
  len : β.length = H.length
  obj : ∀ (l : Nat) (o : Obj), H[l]? = some (some o) → ∃ p o', β[l]? = some (some p) ∧ w.heap[p.b]? = some o' ∧ OR β p o o'
  lt : ∀ (l : Nat) (p : Spot), β[l]? = some (some p) → p.b < w.heap.size
  inj : ∀ (l l' : Nat) (p p' : Spot), β[l]? = some (some p) → β[l']? = some (some p') → p.b = p'.b → l = l'
  own : ∀ (l : Nat) (p : Spot), β[l]? = some (some p) → ro l = true ∨ K p.b ∨ w0.heap.size ≤ p.b
  os : w.os = w0.os
  tape : w.tape = w0.tape
  output : w.output = w0.output
  size : w0.heap.size ≤ w.heap.size
  block : ∀ (k : Nat), k < w0.heap.size → ¬ K k → w.heap[k]? = w0.heap[k]?
  glob : GlobOk β
  mem : ∀ (b : Nat) (o : Obj), Sym.mem b = some o → b < w0.heap.size ∧ ¬ K b ∧ w0.heap[b]? = some o

/-- the blocks of which the symbols tell are as they tell -/
def SameMem (w : World) : Prop := ∀ (b : Nat) (o : Obj), Sym.mem b = some o → w.heap[b]? = some o
/-- w1 is w but for block b -/
structure Chg (b : Nat) (w w1 : World) : Prop where
  os : w1.os = w.os
  tape : w1.tape = w.tape
  output : w1.output = w.output
  size : w.heap.size ≤ w1.heap.size
  block : ∀ (k : Nat), k < w.heap.size → k ≠ b → w1.heap[k]? = w.heap[k]?

theorem lt_of_heap {w : World} {b : Nat} {o : Obj} (h : w.heap[b]? = some o) : b < w.heap.size := (Array.getElem?_eq_some_iff.1 h).1

section
variable {w0 w w1 : World} {K : Nat → Prop} {ro : Nat → Bool} {β : Env} {H : Heap}

theorem M.of_heap (h : M w0 K ro β H w) (e1 : w1.heap = w.heap) (e2 : w1.os = w.os) (e3 : w1.tape = w.tape) (e4 : w1.output = w.output) : M w0 K ro β H w1 :=
  ⟨h.len, by rw [e1]; exact h.obj, by rw [e1]; exact h.lt, h.inj, h.own, e2.trans h.os, e3.trans h.tape, e4.trans h.output, by rw [e1]; exact h.size, by rw [e1]; exact h.block, h.glob, h.mem⟩
theorem M.drew (h : M w0 K ro β H w) : M w0 K ro β H w.drew := h.of_heap rfl rfl rfl rfl

theorem M.put (h : M w0 K ro β H w) (q : Spot) (o o' : Obj) (hw : Chg q.b w w1) (hq : w1.heap[q.b]? = some o')
    (hne : ∀ (l : Nat) (p : Spot), β[l]? = some (some p) → p.b ≠ q.b) (hown : K q.b ∨ w0.heap.size ≤ q.b) (hor : OR (β ++ [some q]) q o o') :
    M w0 K ro (β ++ [some q]) (H ++ [some o]) w1 := by
  have hx : ∀ (l : Nat) (p : Spot), (β ++ [some q])[l]? = some (some p) → (β[l]? = some (some p)) ∨ (l = β.length ∧ p = q) := by
    intro l p hl
    rcases Nat.lt_or_ge l β.length with h1 | h1
    · rw [List.getElem?_append_left h1] at hl; exact .inl hl
    · rw [List.getElem?_append_right h1] at hl
      rcases Nat.eq_or_lt_of_le h1 with h2 | h2
      · rw [← h2] at hl; simp at hl; exact .inr ⟨h2.symm, hl.symm⟩
      · rw [List.getElem?_eq_none (by simp; omega)] at hl; cases hl
  refine ⟨by simp [h.len], fun l ob hl => ?_, fun l p hl => ?_, fun l l' p p' a b e => ?_, fun l p hl => ?_, hw.os.trans h.os, hw.tape.trans h.tape, hw.output.trans h.output, Nat.le_trans h.size hw.size, fun k hk hK => ?_, h.glob.ext (Ext.push _ _), h.mem⟩
  · rcases Nat.lt_or_ge l H.length with h1 | h1
    · rw [List.getElem?_append_left h1] at hl
      obtain ⟨p, ob', a, b, c⟩ := h.obj l ob hl
      exact ⟨p, ob', by rw [List.getElem?_append_left (by rw [h.len]; exact h1)]; exact a, by rw [hw.block _ (lt_of_heap b) (hne l p a)]; exact b, c.mono (Ext.push _ _)⟩
    · rw [List.getElem?_append_right h1] at hl
      rcases Nat.eq_or_lt_of_le h1 with h2 | h2
      · rw [← h2] at hl; simp at hl; subst hl
        exact ⟨q, o', by rw [← h2, List.getElem?_append_right (by rw [h.len]; exact Nat.le_refl _)]; simp [h.len], hq, hor⟩
      · rw [List.getElem?_eq_none (by simp; omega)] at hl; cases hl
  · rcases hx l p hl with h1 | ⟨_, h2⟩
    · exact Nat.lt_of_lt_of_le (h.lt l p h1) hw.size
    · rw [h2]; exact lt_of_heap hq
  · rcases hx l p a with h1 | ⟨h1, h2⟩ <;> rcases hx l' p' b with h3 | ⟨h3, h4⟩
    · exact h.inj l l' p p' h1 h3 e
    · rw [h4] at e; exact absurd e (hne l p h1)
    · rw [h2] at e; exact absurd e.symm (hne l' p' h3)
    · rw [h1, h3]
  · rcases hx l p hl with h1 | ⟨_, h2⟩
    · exact h.own l p h1
    · rw [h2]; exact .inr hown
  · rw [hw.block k (Nat.lt_of_lt_of_le hk h.size) ?_]
    · exact h.block k hk hK
    · intro e
      rcases hown with h1 | h1
      · rw [← e] at h1; exact hK h1
      · omega

theorem Chg.alloc (w : World) (o : Obj) : Chg w.heap.size w (w.alloc o) :=
  ⟨rfl, rfl, rfl, by simp, fun k hk _ => Below.heap_alloc w o k hk⟩

theorem M.alloc (h : M w0 K ro β H w) (n : Nat) (o o' : Obj) (hor : OR (β ++ [some ⟨w.heap.size, 0, n⟩]) ⟨w.heap.size, 0, n⟩ o o') :
    M w0 K ro (β ++ [some ⟨w.heap.size, 0, n⟩]) (H ++ [some o]) (w.alloc o') :=
  h.put ⟨w.heap.size, 0, n⟩ o o' (Chg.alloc w o') (by show (w.heap.push o')[w.heap.size]? = some o'; simp) (fun l p hl => Nat.ne_of_lt (h.lt l p hl)) (.inr h.size) hor

theorem M.turn (h : M w0 K ro β H w) {l : Nat} {p : Spot} (hl : β[l]? = some (some p)) (hro : ro l = false) (o o' : Obj) (hw : Chg p.b w w1) (hq : w1.heap[p.b]? = some o') (hor : OR β p o o') :
    M w0 K ro β (H.set l (some o)) w1 := by
  refine ⟨by simp [h.len], fun k ob hk => ?_, fun k p hk => Nat.lt_of_lt_of_le (h.lt k p hk) hw.size, h.inj, h.own, hw.os.trans h.os, hw.tape.trans h.tape, hw.output.trans h.output, Nat.le_trans h.size hw.size, fun k hk hK => ?_, h.glob, h.mem⟩
  · by_cases e : l = k
    · subst e
      have hlt : l < H.length := by rw [← h.len]; exact (List.getElem?_eq_some_iff.1 hl).1
      rw [List.getElem?_set_self hlt] at hk; cases hk
      exact ⟨p, o', hl, hq, hor⟩
    · rw [List.getElem?_set_ne e] at hk
      obtain ⟨q, ob', a, b, c⟩ := h.obj k ob hk
      exact ⟨q, ob', a, by rw [hw.block _ (lt_of_heap b) (fun e2 => e (h.inj _ _ _ _ hl a e2.symm))]; exact b, c⟩
  · rw [hw.block k (Nat.lt_of_lt_of_le hk h.size) ?_]
    · exact h.block k hk hK
    · intro e
      rcases h.own l p hl with h1 | h1 | h1
      · rw [hro] at h1; cases h1
      · rw [← e] at h1; exact hK h1
      · omega

theorem M.kill (h : M w0 K ro β H w) (l : Nat) : M w0 K ro (β.set l none) (H.set l none) w := by
  have hx : ∀ (k : Nat) (p : Spot), (β.set l none)[k]? = some (some p) → k ≠ l ∧ β[k]? = some (some p) := by
    intro k p hk
    by_cases e : l = k
    · subst e
      have hlt : l < β.length := by have := (List.getElem?_eq_some_iff.1 hk).1; simpa using this
      rw [List.getElem?_set_self hlt] at hk; cases hk
    · rw [List.getElem?_set_ne e] at hk; exact ⟨fun e2 => e e2.symm, hk⟩
  refine ⟨by simp [h.len], fun k ob hk => ?_, fun k p hk => h.lt k p (hx k p hk).2, fun k k' p p' a b e => h.inj _ _ _ _ (hx k p a).2 (hx k' p' b).2 e, fun k p hk => h.own k p (hx k p hk).2, h.os, h.tape, h.output, h.size, h.block, h.glob.ext (Ext.kill _ _), h.mem⟩
  · by_cases e : l = k
    · subst e
      have hlt : l < H.length := by have := (List.getElem?_eq_some_iff.1 hk).1; simpa using this
      rw [List.getElem?_set_self hlt] at hk; cases hk
    · rw [List.getElem?_set_ne e] at hk
      obtain ⟨q, ob', a, b, c⟩ := h.obj k ob hk
      exact ⟨q, ob', by rw [List.getElem?_set_ne e]; exact a, b, c.mono (Ext.kill _ _)⟩
end
end Go.Proofs.YthbkjhacnnoolaaDoorZev
end

/- Loads, stores and new blocks in a small world of labels. No condition. -/
section
namespace Go.Proofs.YthbkjhacnnoolaaDoorZev
open Go.RowKit
set_option linter.unusedVariables false
set_option linter.unusedSectionVars false
variable [Sym] [Kin] [Glob]

section
variable {P : Program} {w0 w w1 : World} {K : Nat → Prop} {ro : Nat → Bool} {β : Env} {H : Heap}

/-- the value of an operand -/
def opd (T : List Value) : Operand → Option Value
  | .tmp t => some (T.getD t undef)
  | .const v => if still v then some v else none
  | .func f => some (.func (.func f) #[] #[])
  | .global g => match Glob.lab g with
    | some l => some (.pointer (some ⟨l, 0, none⟩))
    | none => none

theorem undef_vr (β : Env) : VR β undef undef := .tuple rfl fun i x x' a _ => by simp at a

theorem lsr_getD {T : List Value} {A : Array Value} (h : LsR β T A.toList) (t : Nat) : VR β (T.getD t undef) (A.getD t undef) := by
  rcases Nat.lt_or_ge t T.length with ht | ht
  · obtain ⟨x', h1, h2⟩ := h.at (i := t) (x := T[t]) (List.getElem?_eq_getElem ht)
    have e1 : T.getD t undef = T[t] := by simp [List.getD_eq_getElem?_getD, ht]
    have e2 : A.getD t undef = x' := by
      rw [Array.getD_eq_getD_getElem?]
      simp only [Array.getElem?_toList] at h1
      rw [h1]; rfl
    rw [e1, e2]; exact h2
  · have e1 : T.getD t undef = undef := by simp [List.getD_eq_getElem?_getD, List.getElem?_eq_none ht]
    have e2 : A.getD t undef = undef := by
      rw [Array.getD_eq_getD_getElem?, Array.getElem?_eq_none (by have := h.1; simp at this; omega)]; rfl
    rw [e1, e2]; exact undef_vr β

theorem opd_vr (hg : GlobOk β) {T : List Value} {a : Act} (h : LsR β T a.tmps.toList) {x : Operand} {v : Value} (hx : opd T x = some v) : VR β v (a.eval x) := by
  cases x with
  | tmp t => simp only [opd, Option.some.injEq] at hx; subst hx; exact lsr_getD h t
  | const u =>
    simp only [opd] at hx
    split at hx
    · rename_i hs; cases hx; exact still_vr hs
    · cases hx
  | func f => simp only [opd, Option.some.injEq] at hx; subst hx; exact still_vr (by rfl)
  | global g =>
    simp only [opd] at hx
    split at hx
    · rename_i l hl
      cases hx
      refine .ptr ⟨rfl, ?_⟩
      rcases hg g l hl with ⟨n, h1⟩ | h1
      · exact .inl ⟨_, h1, by simp⟩
      · exact .inr h1
    · cases hx

/-! ### a pointer into cells -/
theorem M.cells (h : M w0 K ro β H w) {l o : Nat} {c : Array Value} {t : TypeId} {z : Nat × Nat} (hl : H[l]? = some (some (.cells c t z))) :
    ∃ p c' t' fz, β[l]? = some (some p) ∧ w.heap[p.b]? = some (.cells c' t' fz) ∧ CR β p c c' fz ∧ (z = (0, 0) → fz = (0, 0)) := by
  obtain ⟨p, o', h1, h2, h3⟩ := h.obj l _ hl
  cases h3 with
  | cells k hz => exact ⟨p, _, _, _, h1, h2, k, hz⟩

theorem AR.live {a a' : Addr} {p : Spot} (h : AR β a a') (hl : β[a.block]? = some (some p)) : a.spot = none ∧ a' = ⟨p.b, p.s + a.off, none⟩ := by
  obtain ⟨h1, ⟨q, h2, h3⟩ | h2⟩ := h
  · rw [hl] at h2; cases h2; exact ⟨h1, h3⟩
  · rw [hl] at h2; cases h2

theorem one_vr {v v' : Value} (h : VR β v v') : v.oneCell' = v'.oneCell' := by cases h <;> first | rfl | (rename_i h; rw [RowR.one h]; rfl) | (rename_i h; rw [h]; rfl) | (rename_i h _; rw [h]; rfl)

theorem isAgg_row {t : TypeId} {d : TypeDesc} (hu : P.underlying t = some d) (w : World) : (isAgg t).run P w = .ok d.isRow w := by
  unfold isAgg
  rw [Sem.run_bind, run_underlying hu w]
  cases d <;> rfl

def loadE (P : Program) (H : Heap) (t : TypeId) : Value → Option Value
  | .pointer (some ⟨l, o, none⟩) =>
    match H[l]?, P.underlying t, P.info? t with
    | some (some (.cells c _ _)), some d, some i =>
      if d.isRow then (if o + i.size ≤ c.size then some (.agg ((c.toList.drop o).take i.size).toArray) else none) else c[o]?
    | _, _, _ => none
  | _ => none

theorem loadE_run (h : M w0 K ro β H w) {t : TypeId} {v v' x : Value} (hv : VR β v v') (hx : loadE P H t v = some x) :
    ∃ x', (∀ w2 : World, (∀ a p, v = .pointer (some a) → β[a.block]? = some (some p) → w2.heap[p.b]? = w.heap[p.b]?) → (Instr.loadAt t v').run P w2 = .ok x' w2) ∧ VR β x x' := by
  unfold loadE at hx
  split at hx
  · rename_i l o
    split at hx
    · rename_i c ty z d i hl hu hi
      obtain ⟨p, c', t', fz, h1, h2, h3, hz⟩ := h.cells (o := o) hl
      cases hv with
      | ptr k =>
        obtain ⟨_, rfl⟩ := k.live h1
        split at hx
        · rename_i hd
          split at hx
          · rename_i hle
            cases hx
            have hle' : o + i.size ≤ p.n := Nat.le_trans hle h3.le
            have hsz := h3.size
            refine ⟨.agg ((c'.toList.drop (p.s + o)).take i.size).toArray, ?_, .agg ?_ ?_⟩
            · intro w2 hw2
              have h2 := (hw2 _ p rfl h1).trans h2
              refine run_loadAt_mid w2 p.b (p.s + o) t _ d ?_ hu hd ?_
              · intro j u hj
                rw [cell_of_row w2 p.b (p.s + o + j) c' t' fz h2]
                have hj2 : j < i.size := by have := (List.getElem?_eq_some_iff.1 hj).1; simp at this; omega
                rw [List.getElem?_take_of_lt hj2, List.getElem?_drop] at hj
                simpa using hj
              · rw [hi]; simp; omega
            · simp; omega
            · intro j u u' hj hj'
              have hj2 : j < i.size := by have := (Array.getElem?_eq_some_iff.1 hj).1; simp at this; omega
              simp only [List.getElem?_toArray, List.getElem?_take_of_lt hj2, List.getElem?_drop, Array.getElem?_toList] at hj hj'
              obtain ⟨u2, e1, e2⟩ := h3.at_ _ _ hj
              rw [Nat.add_assoc, e1] at hj'
              cases hj'
              exact e2
          · cases hx
        · rename_i hd
          obtain ⟨x', e1, e2⟩ := h3.at_ _ _ hx
          refine ⟨x', ?_, e2⟩
          intro w2 hw2
          have h2 := (hw2 _ p rfl h1).trans h2
          have hd' : d.isRow = false := by simpa using hd
          have hc : w2.cell? ⟨p.b, p.s + o, none⟩ = some x' := by rw [cell_of_row w2 p.b _ c' t' fz h2]; exact e1
          simp only [Instr.loadAt, Instr.sureAddr, loadVar, Sem.run_bind, Sem.run_pure, Result.andThen_ok, isAgg_row hu, hd', Bool.false_eq_true, if_false, run_load, hc]
    · cases hx
  · cases hx

/-! ### a store -/
/-- values put over cells, from one place on -/
def putAll (c : Array Value) (i : Nat) : List Value → Array Value
  | [] => c
  | v :: r => putAll (c.setIfInBounds i v) (i + 1) r

theorem CR.set {p : Spot} {c c' : Array Value} {fz : Nat × Nat} (h : CR β p c c' fz) {i : Nat} (hi : i < c.size) {v v' : Value} (hv : VR β v v') :
    CR β p (c.setIfInBounds i v) (c'.setIfInBounds (p.s + i) v') fz := by
  refine ⟨by simpa using h.size, by simpa using h.le, fun j x hj => ?_, h.fz⟩
  have hsz := h.size
  have hle := h.le
  by_cases e : i = j
  · subst e
    rw [Array.getElem?_setIfInBounds_self_of_lt hi] at hj
    cases hj
    exact ⟨v', by rw [Array.getElem?_setIfInBounds_self_of_lt (by omega)], hv⟩
  · rw [Array.getElem?_setIfInBounds_ne e] at hj
    obtain ⟨x', a, b⟩ := h.at_ j x hj
    exact ⟨x', by rw [Array.getElem?_setIfInBounds_ne (by omega)]; exact a, b⟩

theorem CR.putAll {p : Spot} {fz : Nat × Nat} : ∀ (vs vs' : List Value) (c c' : Array Value) (i : Nat), CR β p c c' fz → LsR β vs vs' → i + vs.length ≤ c.size →
    CR β p (putAll c i vs) (putAll c' (p.s + i) vs') fz := by
  intro vs
  induction vs with
  | nil =>
    intro vs' c c' i h hl _
    have : vs' = [] := List.eq_nil_of_length_eq_zero (by have := hl.1; simp at this; omega)
    subst this
    exact h
  | cons v r ih =>
    intro vs' c c' i h hl hi
    cases vs' with
    | nil => have := hl.1; simp at this
    | cons v' r' =>
      simp only [List.length_cons] at hi
      have hv : VR β v v' := hl.2 0 v v' rfl rfl
      have hr : LsR β r r' := ⟨by have := hl.1; simpa using this, fun j x x' a b => hl.2 (j + 1) x x' (by simpa using a) (by simpa using b)⟩
      exact ih r' _ _ (i + 1) (h.set (by omega) hv) hr (by simpa using (show i + 1 + r.length ≤ c.size by omega))

theorem size_putAll : ∀ (vs : List Value) (c : Array Value) (i : Nat), (putAll c i vs).size = c.size := by
  intro vs
  induction vs with
  | nil => intro c i; rfl
  | cons v r ih => intro c i; simp [putAll, ih]

theorem heap_setCell_blk {w : World} {b : Nat} {c : Array Value} {t : TypeId} {fz : Nat × Nat} (h : w.heap[b]? = some (.cells c t fz)) (i : Nat) (v : Value) :
    (w.setCell ⟨b, i, none⟩ v).heap[b]? = some (.cells (c.setIfInBounds i v) t fz) := by
  simp [World.setCell, Array.getElem?_modify, h]

theorem Chg.trans {b : Nat} {a c d : World} (h : Chg b a c) (k : Chg b c d) : Chg b a d :=
  ⟨k.os.trans h.os, k.tape.trans h.tape, k.output.trans h.output, Nat.le_trans h.size k.size, fun i hi hb => (k.block i (Nat.lt_of_lt_of_le hi h.size) hb).trans (h.block i hi hb)⟩
theorem Chg.refl (b : Nat) (w : World) : Chg b w w := ⟨rfl, rfl, rfl, Nat.le_refl _, fun _ _ _ => rfl⟩
theorem Chg.setCell (w : World) (b i : Nat) (v : Value) : Chg b w (w.setCell ⟨b, i, none⟩ v) :=
  ⟨rfl, rfl, rfl, by simp, fun k _ hk => Below.heap_setCell w ⟨b, i, none⟩ v k hk⟩

theorem run_storeCells_blk (P : Program) {b s : Nat} {t : TypeId} {fz : Nat × Nat} : ∀ (vs : List Value) (i : Nat) (c : Array Value) (w : World), w.heap[b]? = some (.cells c t fz) →
    s + i + vs.length ≤ c.size → (∀ v ∈ vs, v.oneCell' = true) → (∀ j, j < vs.length → ¬ (fz.1 ≤ s + i + j ∧ s + i + j < fz.2)) →
    ∃ w1, (storeCells ⟨b, s, none⟩ vs i).run P w = .ok () w1 ∧ Chg b w w1 ∧ w1.heap[b]? = some (.cells (putAll c (s + i) vs) t fz) := by
  intro vs
  induction vs with
  | nil => intro i c w h _ _ _; exact ⟨w, rfl, Chg.refl _ _, h⟩
  | cons v r ih =>
    intro i c w h hi h1 hf
    simp only [List.length_cons] at hi hf
    have hc : w.cell? ⟨b, s + i, none⟩ = some (c[s + i]'(by omega)) := by
      rw [cell_of_row w b _ c t fz h, Array.getElem?_eq_getElem]
    have hfz : w.frozen? ⟨b, s + i, none⟩ = false := by
      have := hf 0 (by omega)
      simp only [World.frozen?, h]
      simp only [Nat.add_zero] at this
      simpa using this
    have hs : (store ⟨b, s + i, none⟩ v).run P w = .ok () (w.setCell ⟨b, s + i, none⟩ v) := by
      have ho := h1 v (by simp)
      cases v <;> first | (simp [Value.oneCell'] at ho; done) | simp [store, Sem.run, hc, hfz]
    obtain ⟨w1, e1, e2, e3⟩ := ih (i + 1) (c.setIfInBounds (s + i) v) (w.setCell ⟨b, s + i, none⟩ v) (heap_setCell_blk h _ _) (by simp; omega) (fun u hu => h1 u (by simp [hu]))
      (fun j hj => by have := hf (j + 1) (by omega); rwa [show s + i + (j + 1) = s + (i + 1) + j from by omega] at this)
    refine ⟨w1, ?_, (Chg.setCell w b _ v).trans e2, ?_⟩
    · simp only [storeCells, Sem.run_bind, Addr.add_mid, hs, Result.andThen_ok, e1]
    · rw [e3]; simp only [putAll]; rw [show s + (i + 1) = s + i + 1 from by omega]

def storeE (P : Program) (ro : Nat → Bool) (H : Heap) (t : TypeId) (a x : Value) : Option Heap :=
  match a with
  | .pointer (some ⟨l, o, none⟩) =>
    match H[l]?, P.info? t with
    | some (some (.cells c ty z)), some i =>
      if ro l = false ∧ x.cells.size = i.size ∧ x.cells.toList.all (·.oneCell') = true ∧ o + x.cells.size ≤ c.size then some (H.set l (some (.cells (putAll c o x.cells.toList) ty z))) else none
    | _, _ => none
  | _ => none

theorem cells_vr {v v' : Value} (h : VR β v v') : LsR β v.cells.toList v'.cells.toList := by
  have one : ∀ {u u' : Value}, VR β u u' → LsR β [u] [u'] := fun {u u'} k => ⟨rfl, fun i x x' a b => by
    cases i with
    | zero => simp at a b; subst a; subst b; exact k
    | succ i => simp at a⟩
  cases h <;> first
    | (rename_i h; rw [RowR.cells h]; exact one (.row _ h))
    | (rename_i h; have e : v'.cells = #[v'] := (by cases v' <;> first | rfl | (simp [Value.oneCell'] at h)); rw [e]; exact one (.opq h))
    | (rename_i i hk e0 h; have e : v'.cells = #[v'] := (by generalize v' = u at h; cases u <;> first | rfl | (simp [Value.oneCell'] at h)); rw [e]; exact one (.sym i e0 h hk))
    | exact (AsR.toList ⟨by assumption, by assumption⟩)
    | (refine one ?_; constructor <;> assumption)
    | exact one (by constructor)

theorem storeE_run (h : M w0 K ro β H w) {t : TypeId} {a a' x x' : Value} {H' : Heap} (ha : VR β a a') (hx : VR β x x') (he : storeE P ro H t a x = some H') :
    ∃ w1, (Instr.storeAt t a' x').run P w = .ok () w1 ∧ M w0 K ro β H' w1 := by
  unfold storeE at he
  split at he
  · rename_i l o
    split at he
    · rename_i c ty z i hl hi
      split at he
      · rename_i hc
        obtain ⟨hro, hc1, hc2, hc3⟩ := hc
        cases he
        obtain ⟨p, c', t', fz, h1, h2, h3, hz⟩ := h.cells (o := o) hl
        cases ha with
        | ptr k =>
          obtain ⟨_, rfl⟩ := k.live h1
          have hcs := cells_vr hx
          have hlen : x'.cells.size = x.cells.size := by have := hcs.1; simp at this; omega
          have hsz := h3.size
          have hle := h3.le
          obtain ⟨w1, e1, e2, e3⟩ := run_storeCells_blk P (s := p.s + o) x'.cells.toList 0 c' w h2 (by simp; omega)
            (fun v hv => by
              obtain ⟨j, hj⟩ := List.getElem?_of_mem hv
              have hj2 : j < x.cells.toList.length := by have := (List.getElem?_eq_some_iff.1 hj).1; simp at this ⊢; omega
              have hr := hcs.2 j _ v (List.getElem?_eq_getElem hj2) hj
              rw [← one_vr hr]
              exact List.all_eq_true.1 hc2 _ (List.getElem_mem hj2))
            (fun j hj => by
              have := h3.fz (o + j) (by simp at hj; omega)
              rwa [show p.s + o + 0 + j = p.s + (o + j) from by omega])
          refine ⟨w1, ?_, h.turn h1 hro _ _ e2 e3 (.cells ?_ hz)⟩
          · have hs2 : x'.cells.size = i.size := by omega
            simp only [Instr.storeAt, Instr.sureAddr, storeVar, Sem.run_bind, Sem.run_pure, Result.andThen_ok, sizeOf, typeInfo, run_program, hi, hs2]
            simp only [ne_eq, not_true_eq_false, if_false]
            simpa using e1
          · have := CR.putAll _ _ _ _ o h3 hcs (by simp; omega)
            simpa [Nat.add_assoc] using this
      · cases he
    · cases he
  · cases he

/-! ### a new block -/
theorem new_cells (h : M w0 K ro β H w) {c c' : Array Value} (hc : AsR β c c') (t : TypeId) :
    M w0 K ro (β ++ [some ⟨w.heap.size, 0, c'.size⟩]) (H ++ [some (.cells c t)]) (w.alloc (.cells c' t)) := by
  refine h.alloc c'.size _ _ (.cells ⟨by simp, by rw [hc.1]; exact Nat.le_refl _, fun i x hx => ?_, fun i _ => by simp⟩ (fun _ => rfl))
  obtain ⟨x', a, b⟩ := hc.at hx
  exact ⟨x', by simpa using a, b.mono (Ext.push _ _)⟩

theorem new_ptr (h : M w0 K ro β H w) (n : Nat) : VR (β ++ [some ⟨w.heap.size, 0, n⟩]) (.pointer (some ⟨H.length, 0, none⟩)) (.pointer (some ⟨w.heap.size, 0, none⟩)) :=
  .ptr ⟨rfl, .inl ⟨⟨w.heap.size, 0, n⟩, by rw [← h.len]; simp, by simp⟩⟩

/-- a type's zero, cell by cell -/
def zeroE (P : Program) (t : TypeId) : Option (Array Value) :=
  match P.info? t with
  | some i => match i.zero with
    | some z => if z.cells.all bare then some z.cells else none
    | none => none
  | none => none
theorem zeroE_run {t : TypeId} {c : Array Value} (h : zeroE P t = some c) : ∃ z, z.cells = c ∧ (∀ w, (zeroValue t).run P w = .ok z w) ∧ c.all bare = true := by
  unfold zeroE at h
  split at h
  · rename_i i hi
    split at h
    · rename_i z hz
      split at h
      · rename_i hb
        cases h
        exact ⟨z, rfl, fun w => by simp [zeroValue, typeInfo, hi, hz], hb⟩
      · cases h
    · cases h
  · cases h

def newE (H : Heap) (c : Array Value) (t : TypeId) : Value × Heap := (.pointer (some ⟨H.length, 0, none⟩), H ++ [some (.cells c t)])

theorem allocE_run (h : M w0 K ro β H w) {t : TypeId} {c : Array Value} (hz : zeroE P t = some c) :
    ∃ v' w1 β', (Instr.alloc t true (.tuple #[])).run P w = .ok v' w1 ∧ Ext β β' ∧ M w0 K ro β' (newE H c t).2 w1 ∧ VR β' (newE H c t).1 v' := by
  obtain ⟨z, rfl, hr, hb⟩ := zeroE_run hz
  refine ⟨.pointer (some ⟨w.heap.size, 0, none⟩), w.alloc (.cells z.cells t), _, ?_, Ext.push _ _, new_cells h (all_bare_asr hb) t, new_ptr h _⟩
  simp [Instr.alloc, hr, newVar, newRow]

theorem boxE_run (h : M w0 K ro β H w) {t : TypeId} {v v' : Value} (hv : VR β v v') :
    ∃ x' w1 β', (Instr.box t v').run P w = .ok x' w1 ∧ Ext β β' ∧ M w0 K ro β' (newE H v.cells t).2 w1 ∧ VR β' (newE H v.cells t).1 x' := by
  refine ⟨.pointer (some ⟨w.heap.size, 0, none⟩), w.alloc (.cells v'.cells t), _, ?_, Ext.push _ _, new_cells h ?_ t, new_ptr h _⟩
  · simp [Instr.box, newVar, newRow]
  · have := cells_vr hv
    exact ⟨by simpa using this.1, by simpa using this.2⟩
end
end Go.Proofs.YthbkjhacnnoolaaDoorZev
end

/- What hangs on no world: arithmetic, comparisons, conversions. No condition. -/
section
namespace Go.Proofs.YthbkjhacnnoolaaDoorZev
open Go.RowKit
set_option linter.unusedVariables false
set_option linter.unusedSectionVars false
variable [Sym] [Kin] [Glob]

/-- what it gives in one world it gives in each, and leaves the world alone -/
def Q (P : Program) {α : Type} (s : Sem α) : Prop := ∀ a w1, s.run P default = .ok a w1 → ∀ w, s.run P w = .ok a w
def pureRun (P : Program) {α : Type} (s : Sem α) : Option α :=
  match s.run P default with
  | .ok a _ => some a
  | .halt _ _ => none

section
variable {P : Program} {α γ : Type}
theorem Q.run {s : Sem α} (h : Q P s) {a : α} (k : pureRun P s = some a) (w : World) : s.run P w = .ok a w := by
  unfold pureRun at k
  split at k
  · rename_i b w1 e; cases k; exact h _ _ e w
  · cases k
theorem Q.pure (a : α) : Q P (Pure.pure a : Sem α) := fun b w1 h w => by
  simp only [Sem.run_pure, Result.ok.injEq] at h ⊢; exact ⟨h.1, trivial⟩
theorem Q.of_no {s : Sem α} (h : ∀ w, ∃ x w1, s.run P w = .halt x w1) : Q P s := fun a w1 e => by
  obtain ⟨x, w2, h2⟩ := h default
  rw [h2] at e; cases e
theorem Q.halt (x : Halt) : Q P (Sem.halt x : Sem α) := Q.of_no fun w => ⟨x, w, rfl⟩
theorem Q.stuck (s : String) : Q P (Go.stuck s : Sem α) := Q.halt _
theorem Q.unsup (u : Unsupported) : Q P (unsupported u : Sem α) := Q.halt _
theorem Q.unsup_bind (u : Unsupported) (f : γ → Sem α) : Q P ((unsupported u : Sem γ) >>= f) := Q.of_no fun w => ⟨_, w, rfl⟩
theorem Q.bind {x : Sem γ} {f : γ → Sem α} (h : Q P x) (k : ∀ b, Q P (f b)) : Q P (x >>= f) := fun a w1 e w => by
  rw [Sem.run_bind] at e ⊢
  cases hx : x.run P default with
  | halt y w2 => rw [hx] at e; cases e
  | ok b w2 =>
    have h0 := h b w2 hx
    have hd := h0 default
    rw [hx] at hd
    simp only [Result.ok.injEq, true_and] at hd
    rw [hx, hd, Result.andThen_ok] at e
    rw [h0 w, Result.andThen_ok]
    exact k b a w1 e w
theorem Q.program : Q P Go.program := fun a w1 h w => by
  simp only [run_program, Result.ok.injEq] at h ⊢; exact ⟨h.1, trivial⟩
theorem no_panic_ok (e : RuntimeError) (w : World) : ∃ x w1, (runtimePanic e : Sem α).run P w = .halt x w1 := by
  cases e <;> simp only [runtimePanic, Sem.run_bind, run_program, Result.andThen_ok] <;> first
    | exact ⟨_, _, rfl⟩
    | (simp only [elemOf, Sem.run_bind]
       cases hx : (underlying _ : Sem TypeDesc).run P w with
       | halt y w2 => exact ⟨_, _, rfl⟩
       | ok d w2 =>
         cases d <;> first | exact ⟨_, _, rfl⟩ | (simp only [Result.andThen_ok, Sem.run_bind, Sem.run_pure, newVar, newRow, newObj]; exact ⟨_, _, rfl⟩))
theorem Q.panic (e : RuntimeError) : Q P (runtimePanic e : Sem α) := Q.of_no (no_panic_ok e)
theorem Q.ite {c : Prop} [Decidable c] {x y : Sem α} (h : Q P x) (k : Q P y) : Q P (if c then x else y) := by split <;> assumption
theorem Q.typeInfo (t : TypeId) : Q P (Go.typeInfo t) := by
  unfold Go.typeInfo
  refine Q.program.bind fun p => ?_
  split
  · exact Q.pure _
  · exact Q.stuck _
theorem Q.underlying (t : TypeId) : Q P (Go.underlying t) := by
  unfold Go.underlying
  refine Q.program.bind fun p => ?_
  split
  · exact Q.pure _
  · exact Q.stuck _
theorem Q.sizeOf (t : TypeId) : Q P (Go.sizeOf t) := by unfold Go.sizeOf; exact (Q.typeInfo t).bind fun _ => Q.pure _
theorem Q.isAgg (t : TypeId) : Q P (Go.isAgg t) := by
  unfold Go.isAgg
  refine (Q.underlying t).bind fun d => ?_
  split <;> exact Q.pure _
theorem Q.part (t : TypeId) (c : Array Value) (o : Nat) : Q P (Go.part t c o) := by
  unfold Go.part
  refine (Q.isAgg t).bind fun b => ?_
  split
  · exact (Q.sizeOf t).bind fun _ => Q.pure _
  · split
    · exact Q.pure _
    · exact Q.stuck _
theorem Q.typeStr (t : TypeId) : Q P (Go.typeStr t) := by
  unfold Go.typeStr
  refine (Q.typeInfo t).bind fun i => ?_
  exact Q.ite (Q.unsup _) (Q.pure _)
theorem Q.forIn_list {γ δ : Type} (f : γ → δ → Sem (ForInStep δ)) (hf : ∀ a b, Q P (f a b)) : ∀ (l : List γ) (b : δ), Q P (forIn l b f) := by
  intro l
  induction l with
  | nil => intro b; simpa using Q.pure b
  | cons x l ih =>
    intro b
    rw [List.forIn_cons]
    refine (hf x b).bind fun s => ?_
    cases s with
    | done c => exact Q.pure _
    | yield c => exact ih c
theorem Q.forIn_array {γ δ : Type} (f : γ → δ → Sem (ForInStep δ)) (hf : ∀ a b, Q P (f a b)) (l : Array γ) (b : δ) : Q P (forIn l b f) := by
  rw [← Array.forIn_toList]; exact Q.forIn_list f hf _ b
theorem Q.forIn_range {δ : Type} (f : Nat → δ → Sem (ForInStep δ)) (hf : ∀ a b, Q P (f a b)) (n : Nat) (b : δ) : Q P (forIn [0:n] b f) := by
  rw [Std.Legacy.Range.forIn_eq_forIn_range']; exact Q.forIn_list f hf _ b

/-- a value that is nowhere, to be compared -/
def flat : Value → Bool
  | .agg c => c.all bare
  | v => bare v

theorem flat_bare {v : Value} (h : flat v = true) (hn : ∀ c, v ≠ .agg c) : bare v = true := by
  unfold flat at h
  split at h
  · exact absurd rfl (hn _)
  · exact h
theorem part_flat {t : TypeId} {c : Array Value} {o : Nat} (hc : c.all bare = true) {v : Value} {w w1 : World} (h : (Go.part t c o).run P w = .ok v w1) : flat v = true := by
  unfold Go.part at h
  rw [Sem.run_bind] at h
  cases hx : (Go.isAgg t).run P w with
  | halt y w2 => rw [hx] at h; cases h
  | ok b w2 =>
    rw [hx, Result.andThen_ok] at h
    have hb := Array.all_eq_true_iff_forall_mem.1 hc
    cases b with
    | true =>
      simp only [if_true, Sem.run_bind] at h
      cases hs : (Go.sizeOf t).run P w2 with
      | halt y w3 => rw [hs] at h; cases h
      | ok n w3 =>
        rw [hs] at h
        simp only [Result.andThen_ok, Sem.run_pure, Result.ok.injEq] at h
        rw [← h.1]
        simp only [flat]
        rw [Array.all_eq_true_iff_forall_mem]
        intro x hx
        obtain ⟨i, hi⟩ := Array.getElem?_of_mem hx
        rw [Array.getElem?_extract] at hi
        split at hi
        · exact hb x (Array.mem_of_getElem? hi)
        · cases hi
    | false =>
      simp only [Bool.false_eq_true, if_false] at h
      split at h
      · rename_i u hu
        simp only [Sem.run_pure, Result.ok.injEq] at h
        rw [← h.1]
        have := hb u (Array.mem_of_getElem? hu)
        unfold flat
        split
        · simp [bare] at this
        · exact this
      · cases h
theorem Q.bind_part {t : TypeId} {c : Array Value} {o : Nat} (hc : c.all bare = true) {f : Value → Sem α} (k : ∀ b, flat b = true → Q P (f b)) : Q P (Go.part t c o >>= f) := fun a w1 e w => by
  rw [Sem.run_bind] at e ⊢
  cases hx : (Go.part t c o).run P default with
  | halt y w2 => rw [hx] at e; cases e
  | ok b w2 =>
    have h0 := Q.part t c o b w2 hx
    have hd := h0 default
    rw [hx] at hd
    simp only [Result.ok.injEq, true_and] at hd
    have hf := part_flat hc hx
    rw [hx, hd, Result.andThen_ok] at e
    rw [h0 w, Result.andThen_ok]
    exact k b hf a w1 e w

theorem Q.equalIn : ∀ (d : Nat) (t : TypeId) (x y : Value), flat x = true → flat y = true → Q P (Op.equalIn d t x y) := by
  intro d
  induction d with
  | zero => intro t x y _ _; exact Q.unsup _
  | succ d ih =>
    intro t x y hx hy
    unfold Op.equalIn
    refine (Q.underlying t).bind fun u => ?_
    split <;> first
      | exact Q.pure _
      | exact Q.stuck _
      | exact Q.unsup _
      | exact Q.ite (Q.pure _) (Q.stuck _)
      | (simp [flat, bare] at hx; done)
      | (simp [flat, bare] at hy; done)
      | skip
    · rename_i a b
      cases a <;> cases b <;> first
        | (simp [flat, bare] at hx; done)
        | (simp [flat, bare] at hy; done)
        | exact Q.pure _
    · simp only [flat] at hx hy
      refine Q.program.bind fun p => ?_
      dsimp only
      refine Q.ite (Q.unsup_bind _ _) ?_
      refine Q.bind (Q.forIn_array _ (fun f b => ?_) _ _) fun r => ?_
      · refine Q.ite ?_ (Q.pure _)
        refine Q.bind_part hx fun b1 h1 => Q.bind_part hy fun b2 h2 => (ih _ _ _ h1 h2).bind fun r => ?_
        exact Q.ite (Q.pure _) (Q.pure _)
      · split <;> exact Q.pure _
    · simp only [flat] at hx hy
      refine (Q.sizeOf _).bind fun n => ?_
      refine Q.bind (Q.forIn_range _ (fun f b => ?_) _ _) fun r => ?_
      · refine Q.bind_part hx fun b1 h1 => Q.bind_part hy fun b2 h2 => (ih _ _ _ h1 h2).bind fun r => ?_
        exact Q.ite (Q.pure _) (Q.pure _)
      · dsimp only
        split <;> exact Q.pure _
theorem Q.equal (t : TypeId) {x y : Value} (hx : flat x = true) (hy : flat y = true) : Q P (Op.equal t x y) := Q.equalIn _ t x y hx hy
end
end Go.Proofs.YthbkjhacnnoolaaDoorZev
end

/- Rows of whole numbers, some of them symbols: when two are the same. No condition. -/
section
namespace Go.Proofs.YthbkjhacnnoolaaDoorZev
open Go.RowKit
set_option linter.unusedVariables false
set_option linter.unusedSectionVars false
variable [Sym] [Kin] [Glob]

/-- a cell that is a whole number of a kind: told, or a symbol's -/
def icell (k : IntKind) : Value → Bool
  | .int j _ => decide (j = k)
  | .chan (some i) => decide (Kin.kind i = some k)
  | _ => false
/-- are two such cells the same? none: that hangs on the symbols -/
def sameC : Value → Value → Option Bool
  | .int _ a, .int _ b => some (decide (a = b))
  | .chan (some i), .chan (some j) => if i = j then some true else none
  | _, _ => none
/-- an array of whole numbers: how many, of which kind -/
def rowKind (P : Program) (t : TypeId) : Option (Nat × IntKind) :=
  match P.underlying t with
  | some (.array n e) => match P.underlying e, P.info? e with
    | some (.int k), some i => if i.size = 1 then some (n, k) else none
    | _, _ => none
  | _ => none
def eqS (P : Program) (t : TypeId) (x y : Value) : Option Bool :=
  match rowKind P t, x, y with
  | some (n, k), .agg a, .agg b =>
    if (decide (a.size = n) && decide (b.size = n) && a.toList.all (icell k) && b.toList.all (icell k)) = true then
      (if (a.toList.zip b.toList).any (fun p => sameC p.1 p.2 == some false) = true then some false
      else if (a.toList.zip b.toList).all (fun p => sameC p.1 p.2 == some true) = true then some true else none)
    else none
  | _, _, _ => none

section
variable {P : Program} {β : Env}

theorem icell_vr {k : IntKind} {v v' : Value} (h : icell k v = true) (hv : VR β v v') : ∃ z, v' = .int k z := by
  cases hv <;> simp only [icell, Bool.false_eq_true, decide_eq_true_eq] at h
  · rename_i i hk e ho
    obtain ⟨z, hz⟩ := hk.2 k h
    exact ⟨z, e.trans hz⟩
  · subst h; exact ⟨_, rfl⟩
theorem sameC_vr {u v u' v' : Value} {b : Bool} (h : sameC u v = some b) (hu : VR β u u') (hv : VR β v v') {k : IntKind} {z y : Int} (e1 : u' = .int k z) (e2 : v' = .int k y) : decide (z = y) = b := by
  unfold sameC at h
  split at h
  · cases h; cases hu; cases hv; cases e1; cases e2; rfl
  · split at h
    · rename_i i j hij
      cases h
      subst hij
      cases hu with
      | sym _ p1 _ _ => cases hv with
        | sym _ p2 _ _ => rw [p1] at e1; rw [p2] at e2; rw [e1] at e2; cases e2; simp
    · cases h
  · cases h

/-- the cells of a row of whole numbers -/
def IntRow (k : IntKind) (c : Array Value) (z : Nat → Int) : Prop := ∀ i, i < c.size → c[i]? = some (.int k (z i))
theorem intRow_of {k : IntKind} {c c' : Array Value} (h1 : c.size = c'.size) (h2 : ∀ (i : Nat) (x x' : Value), c[i]? = some x → c'[i]? = some x' → VR β x x') (h : c.toList.all (icell k) = true) : ∃ z, IntRow k c' z := by
  have key : ∀ i, ∃ z, i < c'.size → c'[i]? = some (.int k z) := by
    intro i
    by_cases hi : i < c'.size
    · have hi' : i < c.size := by omega
      obtain ⟨z, hz⟩ := icell_vr (List.all_eq_true.1 h c[i] (by simp)) (h2 i _ _ (Array.getElem?_eq_getElem hi') (Array.getElem?_eq_getElem hi))
      exact ⟨z, fun _ => by rw [Array.getElem?_eq_getElem hi, hz]⟩
    · exact ⟨0, fun h => absurd h hi⟩
  exact ⟨fun i => Classical.choose (key i), fun i hi => Classical.choose_spec (key i) hi⟩

theorem run_part_int {e : TypeId} {k : IntKind} {c : Array Value} {i : Nat} {v : Value} (hu : P.underlying e = some (.int k)) (h : c[i]? = some v) (w : World) : (Go.part e c i).run P w = .ok v w := by
  unfold Go.part
  have : (Go.isAgg e).run P w = .ok false w := by unfold Go.isAgg; simp [run_underlying hu]
  rw [Sem.run_bind, this]
  simp [h]
theorem run_equalIn_int {d : Nat} {e : TypeId} {k : IntKind} {x y : Int} (hu : P.underlying e = some (.int k)) (w : World) : (Op.equalIn (d + 1) e (.int k x) (.int k y)).run P w = .ok (x == y) w := by
  simp [Op.equalIn, run_underlying hu]
theorem eqLoop {d : Nat} {e : TypeId} {k : IntKind} {a b : Array Value} {z u : Nat → Int} (hu : P.underlying e = some (.int k)) (ha : IntRow k a z) (hb : IntRow k b u) (w : World) :
    ∀ (l : List Nat), (∀ i ∈ l, i < a.size ∧ i < b.size) →
      (forIn (m := Sem) l ((none, ()) : Option Bool × Unit) fun i r => do
        let r1 ← Op.equalIn (d + 1) e (← Go.part e a (i * 1)) (← Go.part e b (i * 1))
        if (!r1) = true then pure (ForInStep.done (some false, ())) else pure (ForInStep.yield (none, ()))).run P w =
      .ok (if l.all (fun i => z i == u i) then (none, ()) else (some false, ())) w := by
  intro l
  induction l with
  | nil => intro _; simp
  | cons i l ih =>
    intro hl
    obtain ⟨h1, h2⟩ := hl i (by simp)
    rw [List.forIn_cons]
    simp only [Sem.run_bind, Nat.mul_one, run_part_int hu (ha i h1), run_part_int hu (hb i h2), Result.andThen_ok, run_equalIn_int hu]
    by_cases he : z i = u i
    · have e1 : (z i == u i) = true := by simp [he]
      rw [e1]
      simp only [Bool.not_true, Bool.false_eq_true, if_false, Sem.run_pure, Result.andThen_ok, List.all_cons, e1, Bool.true_and]
      have := ih (fun j hj => hl j (by simp [hj]))
      simpa using this
    · have e1 : (z i == u i) = false := by simpa using he
      rw [e1]
      simp [e1]

theorem rowKind_eq {t : TypeId} {n : Nat} {k : IntKind} (h : rowKind P t = some (n, k)) : ∃ e i, P.underlying t = some (.array n e) ∧ P.underlying e = some (.int k) ∧ P.info? e = some i ∧ i.size = 1 := by
  unfold rowKind at h
  split at h
  · rename_i m e hu
    split at h
    · rename_i k2 i h1 h2
      split at h
      · rename_i hs; cases h; exact ⟨e, i, hu, h1, h2, hs⟩
      · cases h
    · cases h
  · cases h
theorem run_equal_row {t : TypeId} {n : Nat} {k : IntKind} {a b : Array Value} {z u : Nat → Int} (ht : rowKind P t = some (n, k)) (hn : a.size = n) (hm : b.size = n) (ha : IntRow k a z) (hb : IntRow k b u) (w : World) :
    (Op.equal t (.agg a) (.agg b)).run P w = .ok ((List.range n).all fun i => z i == u i) w := by
  obtain ⟨e, inf, h1, h2, h3, h4⟩ := rowKind_eq ht
  have hs : (Go.sizeOf e).run P w = .ok 1 w := by simp [Go.sizeOf, typeInfo, h3, h4]
  have hd : Op.equal t (.agg a) (.agg b) = Op.equalIn (9998 + 1 + 1) t (.agg a) (.agg b) := rfl
  rw [hd]
  unfold Op.equalIn
  simp only [Sem.run_bind, run_underlying h1, Result.andThen_ok, hs]
  rw [Std.Legacy.Range.forIn_eq_forIn_range']
  have hl := eqLoop (P := P) (d := 9998) h2 ha hb w (List.range' 0 n) (fun i hi => by simp at hi; omega)
  have hr : List.range' 0 n = List.range n := by rw [List.range_eq_range']
  rw [hr] at hl
  simp only [Std.Legacy.Range.size, Nat.sub_zero, Nat.add_sub_cancel, Nat.div_one]
  rw [hr]
  rw [show (9998 + 1 : Nat) = 9999 from rfl] at hl
  rw [hl, Result.andThen_ok]
  cases (List.range n).all fun i => z i == u i <;> rfl

theorem eqS_run {t : TypeId} {x y x' y' : Value} {b : Bool} (hx : VR β x x') (hy : VR β y y') (he : eqS P t x y = some b) (w : World) : (Op.equal t x' y').run P w = .ok b w := by
  unfold eqS at he
  split at he
  case h_2 => cases he
  rename_i n k a c ht
  split at he
  case isFalse => cases he
  rename_i hc
  simp only [Bool.and_eq_true, decide_eq_true_eq] at hc
  obtain ⟨⟨⟨c1, c2⟩, c3⟩, c4⟩ := hc
  cases hx with
  | agg p1 p2 =>
  rename_i a'
  cases hy with
  | agg q1 q2 =>
  rename_i c'
  obtain ⟨z, hz⟩ := intRow_of p1 p2 c3
  obtain ⟨u, hu⟩ := intRow_of q1 q2 c4
  rw [run_equal_row ht (by omega) (by omega) hz hu w]
  have cell : ∀ (i : Nat), i < n → ∀ r, sameC (a.toList.getD i undef) (c.toList.getD i undef) = some r → decide (z i = u i) = r := by
    intro i hi r hr
    have e1 : a[i]? = some (a.toList.getD i undef) := by simp [List.getD_eq_getElem?_getD, show i < a.size by omega]
    have e2 : c[i]? = some (c.toList.getD i undef) := by simp [List.getD_eq_getElem?_getD, show i < c.size by omega]
    have f1 := hz i (by omega)
    have f2 := hu i (by omega)
    exact sameC_vr hr (p2 i _ _ e1 f1) (q2 i _ _ e2 f2) rfl rfl
  congr 1
  split at he
  · rename_i hany
    cases he
    obtain ⟨p, hp, hs⟩ := List.any_eq_true.1 hany
    obtain ⟨i, hi, hpi⟩ := List.mem_iff_getElem.1 hp
    have hlt : i < n := by have := hi; simp at this; omega
    rw [List.all_eq_false]
    refine ⟨i, List.mem_range.2 hlt, ?_⟩
    rw [List.getElem_zip] at hpi
    subst hpi
    have e1 : a.toList[i]'(by simp; omega) = a.toList.getD i undef := by simp [List.getD_eq_getElem?_getD, show i < a.size by omega]
    have e2 : c.toList[i]'(by simp; omega) = c.toList.getD i undef := by simp [List.getD_eq_getElem?_getD, show i < c.size by omega]
    simp only [beq_iff_eq] at hs
    have := cell i hlt false (by rw [← hs]; simp only [e1, e2])
    simpa using this
  · split at he
    · rename_i hall
      cases he
      rw [List.all_eq_true]
      intro i hi
      have hlt := List.mem_range.1 hi
      have h0 : i < (a.toList.zip c.toList).length := by simp; omega
      have hs := List.all_eq_true.1 hall _ (List.getElem_mem h0)
      rw [List.getElem_zip] at hs
      have e1 : a.toList[i]'(by simp; omega) = a.toList.getD i undef := by simp [List.getD_eq_getElem?_getD, show i < a.size by omega]
      have e2 : c.toList[i]'(by simp; omega) = c.toList.getD i undef := by simp [List.getD_eq_getElem?_getD, show i < c.size by omega]
      simp only [beq_iff_eq] at hs
      have := cell i hlt true (by rw [← hs]; simp only [e1, e2])
      simpa using this
    · cases he

theorem eqS_same {t : TypeId} {x y x' y' : Value} (hx : VR β x x') (hy : VR β y y') (he : eqS P t x y = some true) : x' = y' ∧ ∃ k c z, x' = .agg c ∧ IntRow k c z := by
  have hr := eqS_run hx hy he default
  unfold eqS at he
  split at he
  case h_2 => cases he
  rename_i n k a c ht
  split at he
  case isFalse => cases he
  rename_i hc
  simp only [Bool.and_eq_true, decide_eq_true_eq] at hc
  obtain ⟨⟨⟨c1, c2⟩, c3⟩, c4⟩ := hc
  cases hx with
  | agg p1 p2 =>
  rename_i a'
  cases hy with
  | agg q1 q2 =>
  rename_i c'
  obtain ⟨z, hz⟩ := intRow_of p1 p2 c3
  obtain ⟨u, hu⟩ := intRow_of q1 q2 c4
  rw [run_equal_row ht (by omega) (by omega) hz hu] at hr
  have hall : ((List.range n).all fun i => z i == u i) = true := by injection hr
  refine ⟨?_, k, a', z, rfl, hz⟩
  congr 1
  apply Array.ext_getElem?
  intro i
  rcases Nat.lt_or_ge i a'.size with hi | hi
  · rw [hz i hi, hu i (by omega)]
    have := List.all_eq_true.1 hall i (List.mem_range.2 (by omega))
    rw [eq_of_beq this]
  · rw [Array.getElem?_eq_none hi, Array.getElem?_eq_none (by omega)]
theorem sameBits_row {k : IntKind} {c : Array Value} {z : Nat → Int} (h : IntRow k c z) : Instr.sameBits 10000 (.agg c) (.agg c) = true := by
  rw [show Instr.sameBits 10000 (.agg c) (.agg c) = (c.size == c.size && (c.toList.zip c.toList).all fun (x, y) => Instr.sameBits 9999 x y) from rfl]
  simp only [beq_self_eq_true, Bool.true_and, List.all_eq_true]
  intro p hp
  obtain ⟨i, hi, e⟩ := List.mem_iff_getElem.1 hp
  have hlt : i < c.size := by simp at hi; exact hi
  have h1 := h i hlt
  rw [Array.getElem?_eq_getElem hlt] at h1
  have h2 := Option.some.inj h1
  rw [List.getElem_zip] at e
  subst e
  simp only [Array.getElem_toList, h2]
  show (k == k && z i == z i) = true
  simp

/-! ### keys of maps -/
theorem run_checkKey_int {d : Nat} {e : TypeId} {k : IntKind} {x : Int} (hu : P.underlying e = some (.int k)) (b : Bool) (w : World) : (Instr.checkKey b (d + 1) e (.int k x)).run P w = .ok () w := by
  unfold Instr.checkKey
  rw [Sem.run_bind, run_underlying hu, Result.andThen_ok]
  rfl
theorem run_checkKey_row {t : TypeId} {n : Nat} {k : IntKind} {a : Array Value} {z : Nat → Int} (ht : rowKind P t = some (n, k)) (hn : a.size = n) (ha : IntRow k a z) (b : Bool) (w : World) :
    (Instr.checkKey b 10000 t (.agg a)).run P w = .ok () w := by
  obtain ⟨e, inf, h1, h2, h3, h4⟩ := rowKind_eq ht
  have hs : ∀ w, (Go.sizeOf e).run P w = .ok 1 w := fun w => by simp [Go.sizeOf, typeInfo, h3, h4]
  have hd : Instr.checkKey b 10000 t (.agg a) = Instr.checkKey b (9998 + 1 + 1) t (.agg a) := rfl
  rw [hd]
  unfold Instr.checkKey
  simp only [Sem.run_bind, run_underlying h1, Result.andThen_ok]
  rw [Std.Legacy.Range.forIn_eq_forIn_range']
  have hl : ∀ (l : List Nat), (∀ i ∈ l, i < a.size) → (forIn (m := Sem) l () fun i r => do
        Instr.checkKey b (9998 + 1) e (← Go.part e a (i * (← Go.sizeOf e)))
        pure (ForInStep.yield ())).run P w = .ok () w := by
    intro l
    induction l with
    | nil => intro _; simp
    | cons i l ih =>
      intro hl
      rw [List.forIn_cons]
      simp only [Sem.run_bind, hs, Result.andThen_ok, Nat.mul_one, run_part_int h2 (ha i (hl i (by simp))), run_checkKey_int h2, Sem.run_pure]
      exact ih (fun j hj => hl j (by simp [hj]))
  have := hl (List.range' 0 n) (fun i hi => by simp at hi; omega)
  simp only [Std.Legacy.Range.size, Nat.sub_zero, Nat.add_sub_cancel, Nat.div_one]
  rw [this, Result.andThen_ok]; rfl

/-- where a key is, symbols let in; none: that hangs on them -/
def findS (P : Program) (kt : TypeId) (k : Value) : List MapEntry → Nat → Option (Option (Nat × Value))
  | [], _ => some none
  | e :: es, i => match eqS P kt k e.key with
    | some true => some (some (i, e.val))
    | some false => findS P kt k es (i + 1)
    | none => none
/-- a key that is a row of whole numbers -/
def rowKey (P : Program) (kt : TypeId) (k : Value) : Bool :=
  match rowKind P kt, k with
  | some (n, kd), .agg a => decide (a.size = n) && a.toList.all (icell kd)
  | _, _ => false
inductive EsV (β : Env) : List MapEntry → List MapEntry → Prop
  | nil : EsV β [] []
  | cons {e e' : MapEntry} {l l' : List MapEntry} (hk : VR β e.key e'.key) (h : EsV β l l') : EsV β (e :: l) (e' :: l')
theorem findS_run {kt : TypeId} {k k' : Value} (hk : VR β k k') (hr : rowKey P kt k = true) : ∀ (l l' : List MapEntry) (i : Nat) (r : Option (Nat × Value)), EsV β l l' → findS P kt k l i = some r →
    ∃ r', (∀ w, (Instr.findAsking kt k' l' i).run P w = .ok r' w) ∧ ((r = none ∧ r' = none) ∨ ∃ j e e', r = some (j, e.val) ∧ r' = some (j, e'.val) ∧ i ≤ j ∧ l[j - i]? = some e ∧ l'[j - i]? = some e' ∧ eqS P kt k e.key = some true) := by
  intro l
  induction l with
  | nil =>
    intro l' i r hl he
    cases hl
    cases he
    exact ⟨none, fun w => rfl, .inl ⟨rfl, rfl⟩⟩
  | cons e l ih =>
    intro l' i r hl he
    cases hl with
    | cons h1 h2 =>
    rename_i e' l'
    simp only [findS] at he
    split at he
    · rename_i hq
      cases he
      exact ⟨_, fun w => by simp only [Instr.findAsking, Sem.run_bind, eqS_run hk h1 hq w, Result.andThen_ok, if_true, Sem.run_pure], .inr ⟨i, e, e', rfl, rfl, Nat.le_refl _, by simp, by simp, hq⟩⟩
    · rename_i hq
      obtain ⟨r', q1, q2⟩ := ih l' (i + 1) r h2 he
      refine ⟨r', fun w => by simp only [Instr.findAsking, Sem.run_bind, eqS_run hk h1 hq w, Result.andThen_ok, Bool.false_eq_true, if_false, q1 w], ?_⟩
      rcases q2 with q2 | ⟨j, a, a', x1, x2, x3, x4, x5, x6⟩
      · exact .inl q2
      · refine .inr ⟨j, a, a', x1, x2, by omega, ?_, ?_, x6⟩
        · rw [show j - i = (j - (i + 1)) + 1 from by omega, List.getElem?_cons_succ]; exact x4
        · rw [show j - i = (j - (i + 1)) + 1 from by omega, List.getElem?_cons_succ]; exact x5
    · cases he
theorem findNow_array {n : Nat} {e : TypeId} {k : Value} (l : List MapEntry) (i : Nat) : Instr.findNow (.array n e) k l i = if l.isEmpty then some none else none := by
  cases l with
  | nil => rfl
  | cons x l => cases k <;> rfl
/-- the row whose cells are those of a key, in each world -/
theorem findKeyS_run {kt : TypeId} {k k' : Value} {l l' : List MapEntry} {r : Option (Nat × Value)} (hk : VR β k k') (hr : rowKey P kt k = true) (hl : EsV β l l') (he : findS P kt k l 0 = some r) :
    (∀ b w, (Instr.checkKey b 10000 kt k').run P w = .ok () w) ∧ ∃ r', (∀ w, (Instr.findKey kt k' l').run P w = .ok r' w) ∧ ((r = none ∧ r' = none) ∨ ∃ j e e', r = some (j, e.val) ∧ r' = some (j, e'.val) ∧ l[j]? = some e ∧ l'[j]? = some e' ∧ eqS P kt k e.key = some true) := by
  obtain ⟨r', q1, q2⟩ := findS_run hk hr l l' 0 r hl he
  unfold rowKey at hr
  split at hr
  case h_2 => cases hr
  rename_i n kd a ht
  simp only [Bool.and_eq_true, decide_eq_true_eq] at hr
  cases hk with
  | agg p1 p2 =>
  obtain ⟨z, hz⟩ := intRow_of p1 p2 hr.2
  obtain ⟨e, inf, h1, h2, h3, h4⟩ := rowKind_eq ht
  refine ⟨fun b w => run_checkKey_row ht (by omega) hz b w, r', fun w => ?_, ?_⟩
  · unfold Instr.findKey
    simp only [Sem.run_bind, run_underlying h1, Result.andThen_ok, findNow_array]
    cases hl with
    | nil => simpa [Instr.findAsking] using q1 w
    | cons _ _ => simpa using q1 w
  · simpa using q2
end
end Go.Proofs.YthbkjhacnnoolaaDoorZev
end

/- More operations in a small world of labels: comparisons of addresses, fields, elements, slices, values that are built. No condition. -/
section
namespace Go.Proofs.YthbkjhacnnoolaaDoorZev
open Go.RowKit
set_option linter.unusedVariables false
set_option linter.unusedSectionVars false
variable [Sym] [Kin] [Glob]

section
variable {P : Program} {w0 w w1 : World} {K : Nat → Prop} {ro : Nat → Bool} {β : Env} {H : Heap}

theorem flat_eq {v v' : Value} (h : flat v = true) (k : VR β v v') : v' = v := by
  refine still_eq ?_ k
  unfold flat at h
  split at h
  · exact h
  · rename_i hn
    cases v <;> first | exact h | (simp [bare] at h; done)

/-! ### comparisons -/
def eqE (P : Program) (H : Heap) (t : TypeId) (x y : Value) : Option Bool :=
  match P.underlying t, x, y with
  | some (.pointer _), .pointer none, .pointer b => some b.isNone
  | some (.pointer _), .pointer (some _), .pointer none => some false
  | some (.pointer e), .pointer (some ⟨l, o, none⟩), .pointer (some ⟨k, q, none⟩) =>
    match P.info? e, H[l]?, H[k]? with
    | some i, some (some (.cells _ _ (0, 0))), some (some (.cells _ _ (0, 0))) => if i.size = 0 then none else some (l == k && o == q)
    | _, _, _ => none
  | some (.slice _), .slice none _ _, .slice b _ _ => some b.isNone
  | some (.slice _), .slice (some _) _ _, .slice none _ _ => some false
  | some (.map _ _), .map none, .map b => some b.isNone
  | some (.map _ _), .map (some _), .map none => some false
  | some (.func _ _ _), .nilFunc, .func _ _ _ => some false
  | some (.func _ _ _), .func _ _ _, .nilFunc => some false
  | some (.interface _), .nilIface, .iface _ _ => some false
  | some (.interface _), .iface _ _, .nilIface => some false
  | some _, x, y => if flat x && flat y then pureRun P (Op.equal t x y) else eqS P t x y
  | _, _, _ => none

theorem run_equal_succ (t : TypeId) (x y : Value) : ∃ d, Op.equal t x y = Op.equalIn (d + 1) t x y := ⟨9999, rfl⟩

theorem eqE_run (h : M w0 K ro β H w) {t : TypeId} {x y x' y' : Value} {b : Bool} (hx : VR β x x') (hy : VR β y y') (he : eqE P H t x y = some b) :
    (Op.equal t x' y').run P w = .ok b w := by
  have fl : ∀ {x y : Value}, VR β x x' → VR β y y' → (if flat x && flat y then pureRun P (Op.equal t x y) else eqS P t x y) = some b → (Op.equal t x' y').run P w = .ok b w := by
    intro x y hx hy he
    split at he
    · rename_i hf
      simp only [Bool.and_eq_true] at hf
      rw [flat_eq hf.1 hx, flat_eq hf.2 hy]
      exact (Q.equal t hf.1 hf.2).run he w
    · exact eqS_run hx hy he w
  obtain ⟨d, hd⟩ := run_equal_succ t x' y'
  unfold eqE at he
  split at he
  · rename_i hu
    cases hx; cases hy <;> (cases he; rw [hd]; simp [Op.equalIn, run_underlying hu])
  · rename_i hu
    cases hx; cases hy; cases he; rw [hd]; simp [Op.equalIn, run_underlying hu]
  · rename_i e l o k q hu
    split at he
    · rename_i i c1 t1 c2 t2 hi hl hk
      split at he
      · cases he
      · rename_i hz
        cases he
        obtain ⟨p1, c1', t1', f1, a1, b1, r1, z1⟩ := h.cells (o := o) hl
        obtain ⟨p2, c2', t2', f2, a2, b2, r2, z2⟩ := h.cells (o := q) hk
        have z1 := z1 rfl
        have z2 := z2 rfl
        subst z1; subst z2
        cases hx with
        | ptr k1 =>
          cases hy with
          | ptr k2 =>
            obtain ⟨_, rfl⟩ := k1.live a1
            obtain ⟨_, rfl⟩ := k2.live a2
            rw [hd]
            have hs : (Go.sizeOf e).run P w = .ok i.size w := by simp [Go.sizeOf, typeInfo, hi]
            simp only [Op.equalIn, Sem.run_bind, run_underlying hu, Result.andThen_ok, hs, ne_eq, hz, not_false_eq_true, if_true, sameAddr]
            by_cases hlk : l = k
            · subst hlk
              rw [a1] at a2; cases a2
              by_cases hoq : o = q
              · subst hoq; simp
              · have hne : ¬ (p1.s + o = p1.s + q) := by omega
                have e1 : (o == q) = false := by simpa using hoq
                have e2 : ((⟨p1.b, p1.s + o, none⟩ : Addr) == ⟨p1.b, p1.s + q, none⟩) = false := beq_eq_false_iff_ne.2 (fun e => hne (Addr.mk.inj e).2.1)
                simp [e1, e2]
            · have hb : p1.b ≠ p2.b := fun e => hlk (h.inj _ _ _ _ a1 a2 e)
              have hb' : (p1.b == p2.b) = false := by simpa using hb
              have hlk' : (l == k) = false := by simpa using hlk
              simp [hb', hlk', World.frozen?, b1, b2, noView, viewAt, World.shape?, mayBeOne, stringish]
    · cases he
  · rename_i hu
    cases hx; cases hy <;> (cases he; rw [hd]; simp [Op.equalIn, run_underlying hu])
  · rename_i hu
    cases hx <;> cases hy <;> (cases he; rw [hd]; simp [Op.equalIn, run_underlying hu])
  · rename_i hu
    cases hx; cases hy <;> (cases he; rw [hd]; simp [Op.equalIn, run_underlying hu])
  · rename_i hu
    cases hx <;> cases hy <;> (cases he; rw [hd]; simp [Op.equalIn, run_underlying hu])
  · rename_i hu
    cases hx <;> cases hy <;> (cases he; rw [hd]; simp [Op.equalIn, run_underlying hu])
  · rename_i hu
    cases hx <;> cases hy <;> (cases he; rw [hd]; simp [Op.equalIn, run_underlying hu])
  · rename_i hu
    cases hx <;> cases hy <;> (cases he; rw [hd]; simp [Op.equalIn, run_underlying hu])
  · rename_i hu
    cases hx <;> cases hy <;> (cases he; rw [hd]; simp [Op.equalIn, run_underlying hu])
  · exact fl hx hy he
  · cases he

def binE (P : Program) (H : Heap) (op : BinOp) (t : TypeId) (x y : Value) : Option Value :=
  match x, y with
  | .int _ _, .int _ _ => pureRun P (binOp op t x y)
  | .string _, .string _ => pureRun P (binOp op t x y)
  | .float _ _, .float _ _ => none
  | .complex _ _ _, .complex _ _ _ => none
  | .chan _, _ => none
  | _, .chan _ => none
  | x, y =>
    match op with
    | .eql => (eqE P H t x y).map .bool
    | .neq => (eqE P H t x y).map fun b => .bool !b
    | _ => none

theorem Q.binInt (op : BinOp) (t : TypeId) (k k' : IntKind) (a b : Int) : Q P (binOp op t (.int k a) (.int k' b)) := by
  cases op <;> simp only [binOp] <;> first
    | (refine Q.ite (Q.stuck _) ?_; simp only [Op.intArith, Op.intBits, Op.intCmp]; first | exact Q.pure _ | skip)
    | skip
  all_goals first
    | (refine Q.ite (Q.stuck _) ?_; unfold Op.intDiv; refine Q.ite (Q.panic _) ?_; exact Q.pure _)
    | (unfold Op.intDiv; refine Q.ite (Q.panic _) ?_; exact Q.pure _)
    | (unfold Op.shift; refine Q.ite (Q.panic _) ?_; exact Q.pure _)
theorem Q.binStr (op : BinOp) (t : TypeId) (a b : ByteArray) : Q P (binOp op t (.string a) (.string b)) := by
  cases op <;> simp only [binOp, Op.stringOp] <;> first
    | exact Q.pure _
    | exact Q.stuck _
    | exact Q.ite (Q.unsup _) (Q.pure _)

theorem binE_run (h : M w0 K ro β H w) {op : BinOp} {t : TypeId} {x y x' y' r : Value} (hx : VR β x x') (hy : VR β y y') (he : binE P H op t x y = some r) :
    (binOp op t x' y').run P w = .ok r w ∧ VR β r r := by
  have hres : ∀ {k k' : IntKind} {a b : Int} {r : Value}, pureRun P (binOp op t (.int k a) (.int k' b)) = some r → VR β r r := by
    intro k k' a b r hr
    have h1 := (Q.binInt op t k k' a b).run hr w
    cases op <;> simp only [binOp, Op.intArith, Op.intBits, Op.intCmp, Op.intDiv, Op.shift] at h1 <;> (repeat' split at h1) <;> first
      | (simp only [Sem.run_pure, Result.ok.injEq, and_true] at h1; rw [← h1]; constructor)
      | (simp [Go.stuck] at h1; done)
      | (obtain ⟨z, w2, hz⟩ := no_panic_ok (α := Value) (P := P) (.error "integer divide by zero") w; rw [hz] at h1; cases h1)
      | (obtain ⟨z, w2, hz⟩ := no_panic_ok (α := Value) (P := P) (.error "negative shift amount") w; rw [hz] at h1; cases h1)
  have hres2 : ∀ {a b : ByteArray} {r : Value}, pureRun P (binOp op t (.string a) (.string b)) = some r → VR β r r := by
    intro a b r hr
    have h1 := (Q.binStr op t a b).run hr w
    cases op <;> simp only [binOp, Op.stringOp] at h1 <;> (repeat' split at h1) <;> first
      | (simp only [Sem.run_pure, Result.ok.injEq, and_true] at h1; rw [← h1]; constructor)
      | (simp [Go.stuck, unsupported] at h1; done)
  unfold binE at he
  split at he
  · cases hx; cases hy; exact ⟨(Q.binInt _ _ _ _ _ _).run he w, hres he⟩
  · cases hx; cases hy; exact ⟨(Q.binStr _ _ _ _).run he w, hres2 he⟩
  · cases he
  · cases he
  · cases he
  · cases he
  · rename_i n1 n2 n3 n4 n5 n6
    have hbin : ∀ op2, (op2 = .eql ∨ op2 = .neq) → binOp op2 t x' y' = (if op2 = .eql then (do pure (.bool (← Op.equal t x' y'))) else (do pure (.bool (!(← Op.equal t x' y'))))) := by
      intro op2 ho
      rcases ho with rfl | rfl
      · simp only [if_true]
        cases hx <;> (try (rename_i h0; obtain ⟨_, _, _, rfl, _⟩ := (show RowR _ _ _ _ from h0))) <;> cases hy <;> (try (rename_i h0; obtain ⟨_, _, _, rfl, _⟩ := (show RowR _ _ _ _ from h0))) <;> first
          | rfl
          | exact (n1 _ _ _ _ rfl rfl).elim
          | exact (n1 _ _ rfl rfl).elim
          | exact (n1 _ rfl).elim
          | exact (n1 _ _ rfl).elim
          | exact (n2 _ _ _ _ rfl rfl).elim
          | exact (n2 _ _ rfl rfl).elim
          | exact (n2 _ rfl).elim
          | exact (n2 _ _ rfl).elim
          | exact (n3 _ _ _ _ rfl rfl).elim
          | exact (n3 _ _ rfl rfl).elim
          | exact (n3 _ rfl).elim
          | exact (n3 _ _ rfl).elim
          | exact (n4 _ _ _ _ rfl rfl).elim
          | exact (n4 _ _ rfl rfl).elim
          | exact (n4 _ rfl).elim
          | exact (n4 _ _ rfl).elim
          | exact (n5 _ _ _ _ rfl rfl).elim
          | exact (n5 _ _ rfl rfl).elim
          | exact (n5 _ rfl).elim
          | exact (n5 _ _ rfl).elim
          | exact (n6 _ _ _ _ rfl rfl).elim
          | exact (n6 _ _ rfl rfl).elim
          | exact (n6 _ rfl).elim
          | exact (n6 _ _ rfl).elim
      · simp only [reduceCtorEq, if_false]
        cases hx <;> (try (rename_i h0; obtain ⟨_, _, _, rfl, _⟩ := (show RowR _ _ _ _ from h0))) <;> cases hy <;> (try (rename_i h0; obtain ⟨_, _, _, rfl, _⟩ := (show RowR _ _ _ _ from h0))) <;> first
          | rfl
          | exact (n1 _ _ _ _ rfl rfl).elim
          | exact (n1 _ _ rfl rfl).elim
          | exact (n1 _ rfl).elim
          | exact (n1 _ _ rfl).elim
          | exact (n2 _ _ _ _ rfl rfl).elim
          | exact (n2 _ _ rfl rfl).elim
          | exact (n2 _ rfl).elim
          | exact (n2 _ _ rfl).elim
          | exact (n3 _ _ _ _ rfl rfl).elim
          | exact (n3 _ _ rfl rfl).elim
          | exact (n3 _ rfl).elim
          | exact (n3 _ _ rfl).elim
          | exact (n4 _ _ _ _ rfl rfl).elim
          | exact (n4 _ _ rfl rfl).elim
          | exact (n4 _ rfl).elim
          | exact (n4 _ _ rfl).elim
          | exact (n5 _ _ _ _ rfl rfl).elim
          | exact (n5 _ _ rfl rfl).elim
          | exact (n5 _ rfl).elim
          | exact (n5 _ _ rfl).elim
          | exact (n6 _ _ _ _ rfl rfl).elim
          | exact (n6 _ _ rfl rfl).elim
          | exact (n6 _ rfl).elim
          | exact (n6 _ _ rfl).elim
    split at he
    · rw [hbin _ (.inl rfl)]
      cases hq : eqE P H t x y with
      | none => rw [hq] at he; cases he
      | some b =>
        rw [hq] at he; cases he
        exact ⟨by simp [eqE_run h hx hy hq], .bool _⟩
    · rw [hbin _ (.inr rfl)]
      cases hq : eqE P H t x y with
      | none => rw [hq] at he; cases he
      | some b =>
        rw [hq] at he; cases he
        exact ⟨by simp [eqE_run h hx hy hq], .bool _⟩
    · cases he

/-- the operands' guard lets a comparison by -/
def guardE (P : Program) (op : BinOp) (t : TypeId) (x y : Operand) (a b : Value) : Bool :=
  match a, b with
  | .nilIface, .nilIface => (x matches .const _) || (y matches .const _)
  | .agg _, .agg _ => !P.eqGuardType P.depth t
  | .chan _, _ => false
  | _, .chan _ => false
  | _, _ => true
theorem guardE_run {op : BinOp} {t : TypeId} {x y : Operand} {a b a' b' : Value} (ha : VR β a a') (hb : VR β b b') (hg : guardE P op t x y a b = true) (w : World) :
    (eqGuard op t x y a' b').run P w = .ok () w := by
  unfold eqGuard
  cases op <;> first
    | rfl
    | (simp only [Bool.not_true, Bool.false_eq_true, if_false]
       unfold guardE at hg
       cases ha <;> (try (rename_i h0; obtain ⟨_, _, _, rfl, _⟩ := (show RowR _ _ _ _ from h0))) <;> cases hb <;> (try (rename_i h0; obtain ⟨_, _, _, rfl, _⟩ := (show RowR _ _ _ _ from h0))) <;> first
         | (cases hg; done)
         | rfl
         | (cases x <;> cases y <;> first | rfl | (simp at hg; done))
         | (simp only [Bool.not_eq_true'] at hg; simp [hg]))

/-! ### one operand -/
def unE (P : Program) (op : UnOp) (x : Value) : Option Value :=
  match x with
  | .int _ _ | .bool _ => pureRun P (Op.unary op x)
  | _ => none
theorem unE_run {op : UnOp} {x x' r : Value} (hx : VR β x x') (he : unE P op x = some r) (w : World) : (Op.unary op x').run P w = .ok r w ∧ VR β r r := by
  unfold unE at he
  split at he
  · cases hx
    cases op <;> simp only [Op.unary, Op.intArith, Op.intBits, pureRun] at he ⊢ <;> first
      | (simp only [Sem.run_pure, Option.some.injEq] at he; subst he; exact ⟨rfl, .int _ _⟩)
      | (simp [Go.stuck] at he; done)
  · cases hx
    cases op <;> simp only [Op.unary, pureRun] at he ⊢ <;> first
      | (simp only [Sem.run_pure, Option.some.injEq] at he; subst he; exact ⟨rfl, .bool _⟩)
      | (simp [Go.stuck] at he; done)
  · cases he
end
end Go.Proofs.YthbkjhacnnoolaaDoorZev
end

/- Fields, elements, slices, values that are built, in a small world of labels. No condition. -/
section
namespace Go.Proofs.YthbkjhacnnoolaaDoorZev
open Go.RowKit
set_option linter.unusedVariables false
set_option linter.unusedSectionVars false
variable [Sym] [Kin] [Glob]

section
variable {P : Program} {w0 w w1 : World} {K : Nat → Prop} {ro : Nat → Bool} {β : Env} {H : Heap}

theorem AR.add {a a' : Addr} (h : AR β a a') (n : Nat) (ha : a.spot = none) : AR β ⟨a.block, a.off + n, none⟩ (a'.add n) := by
  obtain ⟨h1, ⟨p, h2, rfl⟩ | h2⟩ := h
  · exact ⟨rfl, .inl ⟨p, h2, by rw [Addr.add_mid]; simp; omega⟩⟩
  · exact ⟨rfl, .inr h2⟩

/-! ### part of a row -/
def partE (P : Program) (t : TypeId) (c : Array Value) (o : Nat) : Option Value :=
  match P.underlying t, P.info? t with
  | some d, some i => if d.isRow then some (.agg (c.extract o (o + i.size))) else c[o]?
  | _, _ => none
theorem asr_extract {c c' : Array Value} (h : AsR β c c') (i j : Nat) : AsR β (c.extract i j) (c'.extract i j) := by
  refine ⟨by simp [h.1], fun k x x' a b => ?_⟩
  rw [Array.getElem?_extract] at a b
  rw [← h.1] at b
  split at a
  · rename_i hk; rw [if_pos hk] at b; exact h.2 _ _ _ a b
  · cases a
theorem partE_run {t : TypeId} {c c' : Array Value} {o : Nat} {v : Value} (hc : AsR β c c') (he : partE P t c o = some v) :
    ∃ v', (∀ w, (part t c' o).run P w = .ok v' w) ∧ VR β v v' := by
  unfold partE at he
  split at he
  · rename_i d i hu hi
    have hs : ∀ w, (Go.sizeOf t).run P w = .ok i.size w := fun w => by simp [Go.sizeOf, typeInfo, hi]
    split at he
    · rename_i hd
      cases he
      have := asr_extract hc o (o + i.size)
      refine ⟨.agg (c'.extract o (o + i.size)), ?_, .agg this.1 this.2⟩
      intro w
      simp only [part, Sem.run_bind, isAgg_row hu, hd, Result.andThen_ok, if_true, hs, Sem.run_pure]
    · rename_i hd
      obtain ⟨x', h1, h2⟩ := hc.at he
      have hd' : d.isRow = false := by simpa using hd
      refine ⟨x', ?_, h2⟩
      intro w
      simp only [part, Sem.run_bind, isAgg_row hu, hd', Result.andThen_ok, Bool.false_eq_true, if_false, h1, Sem.run_pure]
  · cases he

def fieldE (P : Program) (t : TypeId) (x : Value) (f : Nat) : Option Value :=
  match P.underlying t, x with
  | some (.struct fs), .agg c => match fs[f]? with
    | some fd => partE P fd.type c fd.offset
    | none => none
  | _, _ => none
theorem fieldE_run {t : TypeId} {x x' v : Value} {f : Nat} (hx : VR β x x') (he : fieldE P t x f = some v) :
    ∃ v', (∀ w, (Instr.field t x' f).run P w = .ok v' w) ∧ VR β v v' := by
  unfold fieldE at he
  split at he
  · rename_i fs c hu
    split at he
    · rename_i fd hf
      cases hx with
      | agg h1 h2 =>
        obtain ⟨v', e1, e2⟩ := partE_run ⟨h1, h2⟩ he
        exact ⟨v', fun w => by simp [Instr.field, run_underlying hu, hf, asAgg, e1], e2⟩
    · cases he
  · cases he

def fieldAtE (P : Program) (t : TypeId) (x : Value) (f : Nat) : Option Value :=
  match P.underlying t, x with
  | some (.struct fs), .pointer (some a) => match fs[f]? with
    | some fd => match P.info? fd.type with
      | some i => if i.size = 0 ∨ a.spot.isSome = true then none else some (.pointer (some ⟨a.block, a.off + fd.offset, none⟩))
      | none => none
    | none => none
  | _, _ => none
theorem fieldAtE_run {t : TypeId} {x x' v : Value} {f : Nat} (hx : VR β x x') (he : fieldAtE P t x f = some v) :
    ∃ v', (∀ w, (Instr.fieldAt t x' f).run P w = .ok v' w) ∧ VR β v v' := by
  unfold fieldAtE at he
  split at he
  · rename_i fs a hu
    split at he
    · rename_i fd hf
      split at he
      · rename_i i hi
        split at he
        · cases he
        · rename_i hz
          cases he
          cases hx with
          | ptr k =>
            rename_i a'
            refine ⟨.pointer (some (a'.add fd.offset)), ?_, .ptr (k.add _ k.1)⟩
            have h0 : ¬ i.size = 0 := fun e => hz (.inl e)
            intro w
            simp [Instr.fieldAt, run_underlying hu, hf, Instr.sureAddr, fieldPlace, Go.sizeOf, typeInfo, hi, h0]
      · cases he
    · cases he
  · cases he

/-! ### elements -/
def indexAtE (P : Program) (t : TypeId) (x ix : Value) : Option Value :=
  match P.underlying t, x, ix with
  | some (.array n e), .pointer (some a), .int _ i =>
    match P.info? e with
    | some f => if 0 ≤ i ∧ i < n ∧ a.spot = none then some (.pointer (some ⟨a.block, a.off + i.toNat * f.size, none⟩)) else none
    | none => none
  | some (.slice e), .slice (some a) n k, .int _ i =>
    match P.info? e with
    | some f => if 0 ≤ i ∧ i < n then some (.pointer (some ⟨a.block, a.off + i.toNat * f.size, none⟩)) else none
    | none => none
  | _, _, _ => none
theorem SR.ar {a a' : Addr} {n k c' : Nat} (h : SR β a a' n k c') (hn : 0 < n) : AR β a a' := by
  obtain ⟨h1, h2, _, ⟨p, h3, h4, h5, h6, h7⟩ | h3⟩ := h
  · refine ⟨h1, .inl ⟨p, h3, ?_⟩⟩
    rcases h6 with h6 | h6
    · cases a'; simp only at h4 h5 h6; subst h4; subst h5; subst h6; rfl
    · omega
  · exact ⟨h1, .inr h3⟩
theorem indexAtE_run {t : TypeId} {x x' ix ix' v : Value} (hx : VR β x x') (hi : VR β ix ix') (he : indexAtE P t x ix = some v) :
    ∃ v', (∀ w, (Instr.indexAt t x' ix').run P w = .ok v' w) ∧ VR β v v' := by
  unfold indexAtE at he
  split at he
  · rename_i n e a kk i hu
    split at he
    · rename_i f hf
      split at he
      · rename_i hc
        cases he
        cases hi
        cases hx with
        | ptr k =>
          rename_i a'
          refine ⟨.pointer (some (a'.add (i.toNat * f.size))), ?_, .ptr (k.add _ k.1)⟩
          intro w
          simp [Instr.indexAt, run_underlying hu, asIntOf, Instr.sureAddr, Go.sizeOf, typeInfo, hf, hc.1, hc.2.1]
      · cases he
    · cases he
  · rename_i e a n k kk i hu
    split at he
    · rename_i f hf
      split at he
      · rename_i hc
        cases he
        cases hi
        cases hx with
        | sl k =>
          rename_i a' c'
          have ka := k.ar (by omega)
          refine ⟨.pointer (some (a'.add (i.toNat * f.size))), ?_, .ptr (ka.add _ ka.1)⟩
          intro w
          simp [Instr.indexAt, run_underlying hu, asIntOf, Go.sizeOf, typeInfo, hf, hc.1, hc.2]
      · cases he
    · cases he
  · cases he

def indexE (P : Program) (t : TypeId) (x ix : Value) : Option Value :=
  match P.underlying t, x, ix with
  | some (.array n e), .agg c, .int _ i =>
    match P.info? e with
    | some f => if 0 ≤ i ∧ i < n then partE P e c (i.toNat * f.size) else none
    | none => none
  | some .string, .string s, .int _ i => if 0 ≤ i then (s[i.toNat]?).map fun b => .int .u8 b.toNat else none
  | _, _, _ => none
theorem indexE_run {t : TypeId} {x x' ix ix' v : Value} (hx : VR β x x') (hi : VR β ix ix') (he : indexE P t x ix = some v) :
    ∃ v', (∀ w, (Instr.index t x' ix').run P w = .ok v' w) ∧ VR β v v' := by
  unfold indexE at he
  split at he
  · rename_i n e c kk i hu
    split at he
    · rename_i f hf
      split at he
      · rename_i hc
        cases hi
        cases hx with
        | agg h1 h2 =>
          obtain ⟨v', e1, e2⟩ := partE_run ⟨h1, h2⟩ he
          exact ⟨v', fun w => by simp [Instr.index, run_underlying hu, asIntOf, Go.sizeOf, typeInfo, hf, hc.1, hc.2, e1], e2⟩
      · cases he
    · cases he
  · rename_i s kk i hu
    split at he
    · rename_i hc
      cases hi
      cases hx
      cases hs : s[i.toNat]? with
      | none => rw [hs] at he; cases he
      | some b =>
        rw [hs] at he; cases he
        exact ⟨_, fun w => by simp only [Instr.index, Sem.run_bind, asIntOf, Sem.run_pure, Result.andThen_ok, run_underlying hu, if_pos hc, hs], .int _ _⟩
    · cases he
  · cases he

/-! ### slices -/
def asN : Option Value → Nat → Option Nat
  | none, d => some d
  | some (.int _ i), _ => if 0 ≤ i then some i.toNat else none
  | some _, _ => none
inductive OptR (β : Env) : Option Value → Option Value → Prop
  | none : OptR β none none
  | some {v v' : Value} (h : VR β v v') : OptR β (some v) (some v')

theorem run_bound {o : Value} {d n y : Nat} (h : asN (some o) d = some n) (hy : n ≤ y) (c : BoundsCode) {o' : Value} (k : VR β o o') (w : World) :
    (Instr.sliceBound o' y c).run P w = .ok n w := by
  unfold asN at h
  split at h
  · rename_i e; cases e
  · rename_i d2 kk i e
    split at h
    · rename_i h0
      cases h
      cases e
      cases k
      have : 0 ≤ i ∧ i ≤ (y : Int) := ⟨h0, by omega⟩
      simp [Instr.sliceBound, asIntOf, this]
    · cases h
  · cases h

theorem run_bounds {lo hi lo' hi' : Option Value} {l h len cap : Nat} (b : Bool) (k1 : OptR β lo lo') (k2 : OptR β hi hi') (hl : asN lo 0 = some l) (hh : asN hi len = some h)
    (h1 : l ≤ h) (h2 : h ≤ cap) (w : World) : (Instr.sliceBounds b len cap lo' hi' none).run P w = .ok (l, h, cap) w := by
  cases k2 with
  | none =>
    simp only [asN, Option.some.injEq] at hh
    subst hh
    cases k1 with
    | none => simp only [asN, Option.some.injEq] at hl; subst hl; simp [Instr.sliceBounds]
    | some k => simp [Instr.sliceBounds, run_bound hl h1 _ k]
  | some k' =>
    have e := fun c => run_bound (P := P) hh h2 c k' w
    cases k1 with
    | none => simp only [asN, Option.some.injEq] at hl; subst hl; simp [Instr.sliceBounds, e]
    | some k => simp [Instr.sliceBounds, e, run_bound hl h1 _ k]
theorem run_bounds3 {lo hi mx lo' hi' mx' : Option Value} {l h m len cap : Nat} (b : Bool) (k1 : OptR β lo lo') (k2 : OptR β hi hi') (k3 : OptR β mx mx') (hl : asN lo 0 = some l) (hh : asN hi len = some h)
    (hm : asN mx len = some m) (h1 : l ≤ h) (h2 : h ≤ m) (h3 : m ≤ cap) (hn : hi.isSome = true) (mn : mx.isSome = true) (w : World) : (Instr.sliceBounds b len cap lo' hi' mx').run P w = .ok (l, h, m) w := by
  cases k2 with
  | none => cases hn
  | some k' =>
    cases k3 with
    | none => cases mn
    | some k3 =>
      have e := fun c => run_bound (P := P) hh h2 c k' w
      have e3 := fun c => run_bound (P := P) hm h3 c k3 w
      cases k1 with
      | none => simp only [asN, Option.some.injEq] at hl; subst hl; simp [Instr.sliceBounds, e, e3]
      | some k => simp [Instr.sliceBounds, e, e3, run_bound hl h1 _ k]

def sliceE (P : Program) (H : Heap) (t : TypeId) (x : Value) (lo hi mx : Option Value) : Option Value :=
  match P.underlying t, x with
  | some .string, .string s =>
    match mx, asN lo 0, asN hi s.size with
    | none, some l, some h => if l ≤ h ∧ h ≤ s.size then some (.string (s.extract l h)) else none
    | _, _, _ => none
  | some (.slice e), .slice none 0 0 =>
    match mx, asN lo 0, asN hi 0, P.info? e with
    | none, some 0, some 0, some _ => some (.slice none 0 0)
    | some m, some 0, some 0, some _ => if hi.isSome = true ∧ asN (some m) 0 = some 0 then some (.slice none 0 0) else none
    | _, _, _, _ => none
  | some (.slice e), .slice (some a) n k =>
    match P.info? e, asN lo 0, asN hi n with
    | some i, some l, some h =>
      if k / 2 = i.size ∧ l ≤ h ∧ h ≤ n then
        match mx with
        | none => some (.slice (some ⟨a.block, a.off + l * i.size, none⟩) (h - l) (2 * i.size + if k % 2 = 1 ∧ h = n then 1 else 0))
        | some m => match asN (some m) n with
          | some m => if h ≤ m ∧ m ≤ n ∧ hi.isSome = true then some (.slice (some ⟨a.block, a.off + l * i.size, none⟩) (h - l) (2 * i.size + if h = m then 1 else 0)) else none
          | none => none
      else none
    | _, _, _ => none
  | some (.array n e), .pointer (some ⟨b, o, none⟩) =>
    match P.info? e, asN lo 0, asN hi n, H[b]? with
    | some i, some l, some h, some (some (.cells c _ _)) =>
      if l ≤ h ∧ h ≤ n ∧ mx = none ∧ o + n * i.size ≤ c.size then some (.slice (some ⟨b, o + l * i.size, none⟩) (h - l) (2 * i.size + if h = n then 1 else 0)) else none
    | _, _, _, _ => none
  | _, _ => none

theorem SR.cut {a a' : Addr} {n k c' l h m s : Nat} (hs : SR β a a' n k c') (e : k / 2 = s) (h1 : l ≤ h) (h2 : h ≤ m) (h3 : m ≤ c') (bit : Nat) (hb : bit ≤ 1) (hbit : bit = 1 → h = m) :
    SR β ⟨a.block, a.off + l * s, none⟩ (if m = l then a' else a'.add (l * s)) (h - l) (2 * s + bit) (m - l) := by
  obtain ⟨g1, g2, g3, g⟩ := hs
  refine ⟨rfl, by omega, fun hk => by have := hbit (by omega); omega, ?_⟩
  have e2 : (2 * s + bit) / 2 = s := by omega
  rcases g with ⟨p, h4, h5, h6, h7, h8⟩ | h4
  · refine .inl ⟨p, h4, ?_, ?_, ?_, ?_⟩
    · split
      · exact h5
      · unfold Addr.add; split <;> exact h5
    · split
      · exact h6
      · unfold Addr.add; split
        · exact h6
        · rfl
    · by_cases hm : m = l
      · right; omega
      · left
        rw [if_neg hm]
        have h7' : a'.off = p.s + a.off := by rcases h7 with h | h <;> omega
        unfold Addr.add
        split
        · rename_i hz; simp only [hz]; omega
        · simp only; omega
    · rw [e2, Nat.sub_mul]
      rw [e] at h8
      have h9 : l * s ≤ m * s := Nat.mul_le_mul_right _ (by omega)
      have h10 : m * s ≤ c' * s := Nat.mul_le_mul_right _ h3
      show a.off + l * s + (m * s - l * s) ≤ p.n
      omega
  · exact .inr h4

theorem sliceE_run (hM : M w0 K ro β H w) {t : TypeId} {x x' v : Value} {lo hi mx lo' hi' mx' : Option Value} (hx : VR β x x') (k1 : OptR β lo lo') (k2 : OptR β hi hi') (k3 : OptR β mx mx')
    (he : sliceE P H t x lo hi mx = some v) : ∃ v', (∀ w, (Instr.sliceAt t x' lo' hi' mx').run P w = .ok v' w) ∧ VR β v v' := by
  unfold sliceE at he
  split at he
  · rename_i s hu
    split at he
    · rename_i l h hl hh
      split at he
      · rename_i hc
        cases he
        cases hx
        cases k3
        refine ⟨_, fun w => ?_, .string _⟩
        simp [Instr.sliceAt, run_underlying hu, Instr.slice, run_bounds (P := P) false k1 k2 hl hh hc.1 hc.2 w]
      · cases he
    · cases he
  · rename_i e hu
    split at he
    · rename_i i hl hh hi2
      cases he
      cases hx
      cases k3
      refine ⟨.slice none 0 0, fun w => ?_, .nils _ _⟩
      have := run_bounds (P := P) true k1 k2 hl hh (Nat.le_refl _) (Nat.zero_le 0) w
      simp only [Instr.sliceAt, Sem.run_bind, run_underlying hu, Result.andThen_ok, Instr.slice, this]
      simp [Go.sizeOf, typeInfo, hi2]
    · rename_i m i hl hh hi2
      split at he
      · rename_i hc
        cases he
        cases hx
        cases k3 with
        | some k3 =>
          refine ⟨.slice none 0 0, fun w => ?_, .nils _ _⟩
          have := run_bounds3 (P := P) true k1 k2 (.some k3) hl hh hc.2 (Nat.le_refl _) (Nat.le_refl _) (Nat.zero_le 0) hc.1 rfl w
          simp only [Instr.sliceAt, Sem.run_bind, run_underlying hu, Result.andThen_ok, Instr.slice, this]
          simp [Go.sizeOf, typeInfo, hi2]
      · cases he
    · cases he
  · rename_i e a n k hu
    split at he
    · rename_i i l h hi hl hh
      split at he
      · rename_i hc
        obtain ⟨c1, c2, c3⟩ := hc
        have hs : ∀ w, (Go.sizeOf e).run P w = .ok i.size w := fun w => by simp [Go.sizeOf, typeInfo, hi]
        cases hx with
        | sl g =>
          rename_i a' c'
          have g2 := g.2.1
          have g3 := g.2.2.1
          split at he
          · cases he
            cases k3
            refine ⟨.slice (if c' = l then some a' else some (a'.add (l * i.size))) (h - l) (c' - l), fun w => ?_, ?_⟩
            · have := run_bounds (P := P) true k1 k2 hl hh c2 (show h ≤ c' by omega) w
              simp only [Instr.sliceAt, Sem.run_bind, run_underlying hu, Result.andThen_ok, Instr.slice, this, hs, Sem.run_pure, Option.map_some]
            · have := g.cut c1 c2 (show h ≤ c' by omega) (Nat.le_refl _) (if k % 2 = 1 ∧ h = n then 1 else 0) (by split <;> omega) (fun hb => by
                split at hb
                · rename_i hx; have := g3 hx.1; omega
                · omega)
              rw [show (if c' = l then some a' else some (a'.add (l * i.size))) = some (if c' = l then a' else a'.add (l * i.size)) from by split <;> rfl]
              exact .sl this
          · rename_i m
            split at he
            · rename_i m hm
              split at he
              · rename_i hd
                cases he
                cases k3 with
                | some k3 =>
                  refine ⟨.slice (if m = l then some a' else some (a'.add (l * i.size))) (h - l) (m - l), fun w => ?_, ?_⟩
                  · have := run_bounds3 (P := P) true k1 k2 (.some k3) hl hh hm c2 hd.1 (show m ≤ c' by omega) hd.2.2 rfl w
                    simp only [Instr.sliceAt, Sem.run_bind, run_underlying hu, Result.andThen_ok, Instr.slice, this, hs, Sem.run_pure, Option.map_some]
                  · have := g.cut c1 c2 hd.1 (show m ≤ c' by omega) (if h = m then 1 else 0) (by split <;> omega) (fun hb => by
                      split at hb
                      · assumption
                      · omega)
                    rw [show (if m = l then some a' else some (a'.add (l * i.size))) = some (if m = l then a' else a'.add (l * i.size)) from by split <;> rfl]
                    exact .sl this
              · cases he
            · cases he
      · cases he
    · cases he
  · rename_i n e b o hu
    split at he
    · rename_i i l h c ty z hi hl hh hb
      split at he
      · rename_i hc
        obtain ⟨c1, c2, c3, c4⟩ := hc
        cases he
        subst c3
        cases k3
        have hs : ∀ w, (Go.sizeOf e).run P w = .ok i.size w := fun w => by simp [Go.sizeOf, typeInfo, hi]
        obtain ⟨p, cc, tt, fz, d1, d2, d3, d4⟩ := hM.cells (o := o) hb
        cases hx with
        | ptr g =>
          obtain ⟨_, rfl⟩ := g.live d1
          have hle := d3.le
          have g0 : SR β ⟨b, o, none⟩ ⟨p.b, p.s + o, none⟩ n (2 * i.size + 1) n := ⟨rfl, Nat.le_refl _, fun _ => rfl, .inl ⟨p, d1, rfl, rfl, .inl rfl, by
            rw [show (2 * i.size + 1) / 2 = i.size from by omega]; show o + n * i.size ≤ p.n; omega⟩⟩
          have := g0.cut (show (2 * i.size + 1) / 2 = i.size by omega) c1 c2 (Nat.le_refl _) (if h = n then 1 else 0) (by split <;> omega) (fun hb => by
            split at hb
            · assumption
            · omega)
          refine ⟨_, fun w => ?_, .sl this⟩
          have hbd := run_bounds (P := P) false k1 k2 hl hh c1 c2 w
          simp only [Instr.sliceAt, Sem.run_bind, run_underlying hu, Result.andThen_ok, Instr.sureAddr, Sem.run_pure, hbd, hs]
      · cases he
    · cases he
  · cases he
end
end Go.Proofs.YthbkjhacnnoolaaDoorZev
end

/- Values that are built, conversions, lengths, in a small world of labels. No condition. -/
section
namespace Go.Proofs.YthbkjhacnnoolaaDoorZev
open Go.RowKit
set_option linter.unusedVariables false
set_option linter.unusedSectionVars false
variable [Sym] [Kin] [Glob]

section
variable {P : Program} {w0 w w1 : World} {K : Nat → Prop} {ro : Nat → Bool} {β : Env} {H : Heap}

/-! ### values that are built -/
inductive PsR (β : Env) : List (Nat × Value) → List (Nat × Value) → Prop
  | nil : PsR β [] []
  | cons {i : Nat} {v v' : Value} {r r' : List (Nat × Value)} (h : VR β v v') (k : PsR β r r') : PsR β ((i, v) :: r) ((i, v') :: r')

def partsE (T : List Value) : List (Nat × Operand) → Option (List (Nat × Value))
  | [] => some []
  | (i, x) :: r => match opd T x, partsE T r with
    | some v, some vs => some ((i, v) :: vs)
    | _, _ => none
theorem partsE_vr (hg : GlobOk β) {T : List Value} {a : Act} (h : LsR β T a.tmps.toList) : ∀ (l : List (Nat × Operand)) (ps : List (Nat × Value)), partsE T l = some ps → PsR β ps (l.map fun (i, x) => (i, a.eval x)) := by
  intro l
  induction l with
  | nil => intro ps e; cases e; exact .nil
  | cons p r ih =>
    obtain ⟨i, x⟩ := p
    intro ps e
    simp only [partsE] at e
    split at e
    · rename_i v vs e1 e2
      cases e
      exact .cons (opd_vr hg h e1) (ih _ e2)
    · cases e
def opds (T : List Value) : List Operand → Option (List Value)
  | [] => some []
  | x :: r => match opd T x, opds T r with
    | some v, some vs => some (v :: vs)
    | _, _ => none
theorem LsR.nil (β : Env) : LsR β [] [] := ⟨rfl, fun i x x' a _ => by simp at a⟩
theorem LsR.cons {v v' : Value} {r r' : List Value} (h : VR β v v') (k : LsR β r r') : LsR β (v :: r) (v' :: r') :=
  ⟨by simp [k.1], fun i x x' a b => by
    cases i with
    | zero => simp at a b; subst a; subst b; exact h
    | succ i => exact k.2 i x x' (by simpa using a) (by simpa using b)⟩
theorem LsR.append {c c' d d' : List Value} (h : LsR β c c') (k : LsR β d d') : LsR β (c ++ d) (c' ++ d') :=
  ⟨by simp [h.1, k.1], fun i x x' a b => by
    rcases Nat.lt_or_ge i c.length with hi | hi
    · rw [List.getElem?_append_left hi] at a
      rw [List.getElem?_append_left (by rw [← h.1]; exact hi)] at b
      exact h.2 _ _ _ a b
    · rw [List.getElem?_append_right hi] at a
      rw [List.getElem?_append_right (by rw [← h.1]; exact hi), ← h.1] at b
      exact k.2 _ _ _ a b⟩
theorem opds_vr (hg : GlobOk β) {T : List Value} {a : Act} (h : LsR β T a.tmps.toList) : ∀ (l : List Operand) (vs : List Value), opds T l = some vs → LsR β vs (l.map a.eval) := by
  intro l
  induction l with
  | nil => intro vs e; cases e; exact LsR.nil β
  | cons x r ih =>
    intro vs e
    simp only [opds] at e
    split at e
    · rename_i v vs e1 e2; cases e; exact .cons (opd_vr hg h e1) (ih _ e2)
    · cases e

theorem AsR.set {c c' : Array Value} (h : AsR β c c') (i : Nat) {v v' : Value} (hv : VR β v v') : AsR β (c.setIfInBounds i v) (c'.setIfInBounds i v') := by
  refine ⟨by simp [h.1], fun k x x' a b => ?_⟩
  by_cases e : i = k
  · subst e
    have hi : i < c.size := by have := (Array.getElem?_eq_some_iff.1 a).1; simpa using this
    rw [Array.getElem?_setIfInBounds_self_of_lt hi] at a
    rw [Array.getElem?_setIfInBounds_self_of_lt (by rw [← h.1]; exact hi)] at b
    cases a; cases b; exact hv
  · rw [Array.getElem?_setIfInBounds_ne e] at a b; exact h.2 _ _ _ a b
theorem foldl_set_asr (off : Nat) : ∀ (l l' : List Value) (k : Nat) (c c' : Array Value), LsR β l l' → AsR β c c' →
    AsR β ((l.zipIdx k).foldl (fun cs (p : Value × Nat) => cs.setIfInBounds (off + p.2) p.1) c) ((l'.zipIdx k).foldl (fun cs (p : Value × Nat) => cs.setIfInBounds (off + p.2) p.1) c') := by
  intro l
  induction l with
  | nil =>
    intro l' k c c' h hc
    have : l' = [] := List.eq_nil_of_length_eq_zero (by have := h.1; simp at this; omega)
    subst this; exact hc
  | cons v r ih =>
    intro l' k c c' h hc
    cases l' with
    | nil => have := h.1; simp at this
    | cons v' r' =>
      have hv : VR β v v' := h.2 0 v v' rfl rfl
      have hr : LsR β r r' := ⟨by have := h.1; simpa using this, fun j x x' a b => h.2 (j + 1) x x' (by simpa using a) (by simpa using b)⟩
      simp only [List.zipIdx_cons, List.foldl_cons]
      exact ih r' _ _ _ hr (hc.set _ hv)
theorem fill_asr (place : Nat → Option (Nat × Nat)) : ∀ (ps ps' : List (Nat × Value)) (c c' cs : Array Value), PsR β ps ps' → AsR β c c' → Instr.fill place c ps = some cs →
    ∃ cs', Instr.fill place c' ps' = some cs' ∧ AsR β cs cs' := by
  intro ps
  induction ps with
  | nil => intro ps' c c' cs h hc e; cases h; simp only [Instr.fill, Option.some.injEq] at e; subst e; exact ⟨c', rfl, hc⟩
  | cons p r ih =>
    intro ps' c c' cs h hc e
    cases h with
    | cons hv hr =>
      rename_i i v v' r'
      simp only [Instr.fill] at e ⊢
      split at e
      · cases e
      · rename_i off size hp
        have hl := cells_vr hv
        have hsz : v'.cells.size = v.cells.size := by have := hl.1; simp at this; omega
        split at e
        · cases e
        · rename_i hn
          rw [if_neg (by rw [hsz, ← hc.1]; exact hn)]
          refine ih _ _ _ _ hr ?_ e
          have := foldl_set_asr (β := β) off v.cells.toList v'.cells.toList 0 c c' hl hc
          rw [← Array.foldl_toList, ← Array.foldl_toList, Array.toList_zipIdx, Array.toList_zipIdx]
          exact this

def buildE (P : Program) (t : TypeId) (ps : List (Nat × Value)) : Option Value :=
  match zeroE P t, P.built t ps with
  | some _, some c => some (.agg c)
  | _, _ => none
theorem built_asr {t : TypeId} {ps ps' : List (Nat × Value)} {c z : Array Value} (hp : PsR β ps ps') (hz : zeroE P t = some z) (h : P.built t ps = some c) : ∃ c', P.built t ps' = some c' ∧ AsR β c c' := by
  unfold zeroE at hz
  unfold Program.built at h ⊢
  cases hi : P.info? t with
  | none => rw [hi] at hz; cases hz
  | some it =>
    rw [hi] at hz h
    simp only at hz
    cases hzz : it.zero with
    | none => rw [hzz] at hz; cases hz
    | some zz =>
      rw [hzz] at hz
      simp only at hz
      split at hz
      · rename_i hb
        have hr : AsR β zz.cells zz.cells := all_bare_asr hb
        cases hu : P.underlying t with
        | none => simp [hu] at h
        | some d =>
          cases d <;> try (simp [hu] at h; done)
          case array n e =>
            cases hie : P.info? e with
            | none => simp [hu, hzz, hie] at h
            | some ie =>
              simp only [hu, hzz, hie] at h ⊢
              exact fill_asr _ _ _ _ _ _ hp hr h
          case struct fields =>
            cases hpl : fields.toList.mapM (fun f => (P.info? f.type).map fun i => (f.offset, i.size)) with
            | none => simp [hu, hzz, hpl] at h
            | some places =>
              simp only [hu, hzz, hpl] at h ⊢
              exact fill_asr _ _ _ _ _ _ hp hr h
      · cases hz
theorem buildE_run {t : TypeId} {ps : List (Nat × Value)} {ps' : Array (Nat × Value)} {v : Value} (hp : PsR β ps ps'.toList) (he : buildE P t ps = some v) :
    ∃ v', (∀ w, (Instr.build t ps').run P w = .ok v' w) ∧ VR β v v' := by
  unfold buildE at he
  split at he
  · rename_i z c hz hc
    cases he
    obtain ⟨c', h1, h2⟩ := built_asr hp hz hc
    exact ⟨.agg c', fun w => run_build w t ps' c' h1, .agg h2.1 h2.2⟩
  · cases he

def rowZero (z : Array Value) (n : Nat) : Array Value := (Array.range n).map (fun i => z[i % z.size]!)
def buildSliceE (P : Program) (H : Heap) (t : TypeId) (n : Nat) (ps : List (Nat × Value)) : Option (Value × Heap) :=
  match P.underlying t with
  | some (.slice e) => match P.info? e, zeroE P e with
    | some i, some z =>
      if n = 0 then match ps with
        | [] => some (.slice (some ⟨H.length, 0, none⟩) 0 (2 * i.size + 1), H ++ [some (.cells #[] e)])
        | _ :: _ => none
      else if (rowZero z (n * i.size)).all bare = true ∧ n * i.size ≤ 16777216 ∧ n * i.size ≠ 0 then
        match Instr.fill (fun k => some (k * i.size, i.size)) (rowZero z (n * i.size)) ps with
        | some c => if c.size = n * i.size then some (.slice (some ⟨H.length, 0, none⟩) n (2 * i.size + 1), H ++ [some (.cells c e)]) else none
        | none => none
      else none
    | _, _ => none
  | _ => none
theorem new_slice (h : M w0 K ro β H w) (n s m : Nat) (hn : n * s ≤ m) : VR (β ++ [some ⟨w.heap.size, 0, m⟩]) (.slice (some ⟨H.length, 0, none⟩) n (2 * s + 1)) (.slice (some ⟨w.heap.size, 0, none⟩) n n) :=
  .sl ⟨rfl, Nat.le_refl _, fun _ => rfl, .inl ⟨⟨w.heap.size, 0, m⟩, by rw [← h.len]; simp, rfl, rfl, .inl rfl, by rw [show (2 * s + 1) / 2 = s from by omega]; simpa using hn⟩⟩
theorem buildSliceE_run (h : M w0 K ro β H w) {t : TypeId} {n : Nat} {ps : List (Nat × Value)} {ps' : Array (Nat × Value)} {v : Value} {H' : Heap} (hp : PsR β ps ps'.toList) (he : buildSliceE P H t n ps = some (v, H')) :
    ∃ v' w1 β', (Instr.buildSlice t n ps').run P w = .ok v' w1 ∧ Ext β β' ∧ M w0 K ro β' H' w1 ∧ VR β' v v' := by
  unfold buildSliceE at he
  split at he
  · rename_i e hu
    split at he
    · rename_i i z hi hz
      split at he
      · rename_i hn
        subst hn
        split at he
        · cases he
          cases hpp : ps'.toList with
          | nil =>
            have hs : (Go.sizeOf e).run P w = .ok i.size w := by simp [Go.sizeOf, typeInfo, hi]
            refine ⟨.slice (some ⟨w.heap.size, 0, none⟩) 0 0, w.alloc (.cells #[] e), _, ?_, Ext.push _ _, new_cells h (c := #[]) (c' := #[]) ⟨rfl, fun i x x' a _ => by simp at a⟩ e, new_slice h 0 i.size _ (by simp)⟩
            have e0 : Array.range 0 = #[] := Array.eq_empty_of_size_eq_zero (by simp)
            simp [Instr.buildSlice, run_underlying hu, hs, hpp, Instr.fill, newRow, e0]
          | cons p r => rw [hpp] at hp; cases hp
        · cases he
      rename_i hn0
      split at he
      · rename_i hc
        obtain ⟨c1, c2, c3⟩ := hc
        split at he
        · rename_i c hf
          split at he
          · rename_i hsz
            cases he
            obtain ⟨zv, rfl, hr, hb⟩ := zeroE_run hz
            obtain ⟨c', f1, f2⟩ := fill_asr _ _ _ _ _ _ hp (all_bare_asr (β := β) c1) hf
            refine ⟨.slice (some ⟨w.heap.size, 0, none⟩) n n, w.alloc (.cells c' e), _, ?_, Ext.push _ _, new_cells h f2 e, new_slice h n i.size _ (by rw [← f2.1, hsz]; exact Nat.le_refl _)⟩
            have c2' : ¬ (16777216 < n * i.size) := by omega
            have f1' : Instr.fill (fun k => some (k * i.size, i.size)) ((Array.range (n * i.size)).map (fun k => zv.cells[k % zv.cells.size]!)) ps'.toList = some c' := f1
            have hs : (Go.sizeOf e).run P w = .ok i.size w := by simp [Go.sizeOf, typeInfo, hi]
            simp [Instr.buildSlice, run_underlying hu, hs, c2', c3, hr, f1', newRow]
          · cases he
        · cases he
      · cases he
    · cases he
  · cases he

/-! ### small ones -/
def nilE : Value → Option Value
  | .pointer (some a) => some (.pointer (some a))
  | .func (.func f) a b => some (.func (.func f) a b)
  | _ => none
theorem nilE_run {x x' v : Value} (hx : VR β x x') (he : nilE x = some v) {ρ : Operand → Value} {o : Oper} {y : Operand} (ho : o.op = .nilCheck y) (hy : ρ y = x') (w : World) :
    (execOp ρ o).run P w = .ok (.value x') w ∧ VR β v x' := by
  unfold nilE at he
  split at he
  · cases he
    refine ⟨?_, hx⟩
    unfold execOp
    simp only [ho, hy]
    cases hx; rfl
  · cases he
    refine ⟨?_, hx⟩
    unfold execOp
    simp only [ho, hy]
    cases hx; rfl
  · cases he

def ifaceE (P : Program) (t : TypeId) (x : Value) : Option Value :=
  match P.underlying t with
  | some (.interface _) => none
  | some _ => some (.iface t x)
  | none => none
theorem ifaceE_run {t : TypeId} {x x' v : Value} (hx : VR β x x') (he : ifaceE P t x = some v) : ∃ v', (∀ w, (Instr.makeInterface t x').run P w = .ok v' w) ∧ VR β v v' := by
  unfold ifaceE at he
  split at he
  · cases he
  · rename_i d hn hu
    cases he
    refine ⟨_, fun w => ?_, .iface hx⟩
    simp only [Instr.makeInterface, Sem.run_bind, run_underlying hu, Result.andThen_ok]
    cases d <;> first | rfl | exact (hn _ hu).elim
  · cases he

def extractE (x : Value) (i : Nat) : Option Value :=
  match x with
  | .tuple vs => vs[i]?
  | _ => none
theorem extractE_run {x x' v : Value} {i : Nat} (hx : VR β x x') (he : extractE x i = some v) : ∃ v', (∀ w, (Instr.extract x' i).run P w = .ok v' w) ∧ VR β v v' := by
  unfold extractE at he
  split at he
  · cases hx with
    | tuple h1 h2 =>
      obtain ⟨v', e1, e2⟩ := AsR.at ⟨h1, h2⟩ he
      exact ⟨v', fun w => by simp [Instr.extract, e1], e2⟩
  · cases he

def arrayAtE (P : Program) (t : TypeId) (x : Value) : Option Value :=
  match P.underlying t, x with
  | some (.array n _), .slice (some a) l _ => if n ≤ l ∧ 0 < l then some (.pointer (some a)) else none
  | _, _ => none
theorem arrayAtE_run {t : TypeId} {x x' v : Value} (hx : VR β x x') (he : arrayAtE P t x = some v) : ∃ v', (∀ w, (Instr.arrayAt t x').run P w = .ok v' w) ∧ VR β v v' := by
  unfold arrayAtE at he
  split at he
  · rename_i n e a l k hu
    split at he
    · rename_i hc
      cases he
      cases hx with
      | sl g =>
        refine ⟨_, fun w => ?_, .ptr (g.ar hc.2)⟩
        have : ¬ (l < n) := by omega
        simp [Instr.arrayAt, run_underlying hu, this]
    · cases he
  · cases he

def lenE (P : Program) (H : Heap) (t : TypeId) (x : Value) : Option Value :=
  match P.underlying t, x with
  | some .string, .string s => some (goInt s.size)
  | some (.array n _), _ => some (goInt n)
  | some (.pointer a), _ => match P.underlying a with
    | some (.array n _) => some (goInt n)
    | _ => none
  | some (.slice _), .slice _ n _ => some (goInt n)
  | some (.map _ _), .map none => some (goInt 0)
  | some (.map _ _), .map (some l) => match H[l]? with
    | some (some (.map es _)) => some (goInt es.size)
    | _ => none
  | _, _ => none
theorem M.map (h : M w0 K ro β H w) {l b : Nat} {es : Array MapEntry} {k : Nat} (hl : H[l]? = some (some (.map es k))) (hb : LR β l b) :
    ∃ p es', β[l]? = some (some p) ∧ b = p.b ∧ w.heap[b]? = some (.map es' k) ∧ es.size = es'.size ∧ (∀ (i : Nat) (e e' : MapEntry), es[i]? = some e → es'[i]? = some e' → e'.born = e.born ∧ VR β e.key e'.key ∧ VR β e.val e'.val) := by
  obtain ⟨p, o', h1, h2, h3⟩ := h.obj l _ hl
  rcases hb with ⟨q, h4, rfl⟩ | h4
  · rw [h1] at h4; cases h4
    cases h3 with
    | map a b => exact ⟨p, _, h1, rfl, h2, a, b⟩
  · rw [h1] at h4; cases h4
theorem lenE_run (h : M w0 K ro β H w) {t ty : TypeId} {ts : Array TypeId} {x x' v : Value} (ht : ts[0]? = some t) (hx : VR β x x') (he : lenE P H t x = some v) :
    (Builtin.len_ ts ty #[x']).run P w = .ok v w ∧ VR β v v := by
  unfold lenE at he
  have h0 : (#[x'] : Array Value)[0]? = some x' := rfl
  split at he
  · rename_i hu; cases he; cases hx; exact ⟨by simp [Builtin.len_, ht, run_underlying hu], .int _ _⟩
  · rename_i hu; cases he; exact ⟨by simp [Builtin.len_, ht, run_underlying hu], .int _ _⟩
  · rename_i hu
    split at he
    · rename_i hu2; cases he; exact ⟨by simp [Builtin.len_, ht, run_underlying hu, run_underlying hu2], .int _ _⟩
    · cases he
  · rename_i hu; cases he; cases hx <;> exact ⟨by simp [Builtin.len_, ht, run_underlying hu], .int _ _⟩
  · rename_i hu; cases he; cases hx; exact ⟨by simp [Builtin.len_, ht, run_underlying hu], .int _ _⟩
  · rename_i l hu
    split at he
    · rename_i es k hl
      cases he
      cases hx with
      | map hb =>
        obtain ⟨p, es', _, _, h3, h4, _⟩ := h.map hl hb
        refine ⟨?_, .int _ _⟩
        simp [Builtin.len_, ht, run_underlying hu, getObj, Sem.run, h3, h4]
    · cases he
  · cases he
def capE (P : Program) (t : TypeId) (x : Value) : Option Value :=
  match P.underlying t, x with
  | some (.slice _), .slice none _ c => some (goInt c)
  | some (.slice _), .slice (some _) n k => if k % 2 = 1 then some (goInt n) else none
  | _, _ => none
end
end Go.Proofs.YthbkjhacnnoolaaDoorZev
end
