/- Rows of whole numbers, some of them symbols: when two are the same. No condition. -/
import Derived.Test.YtfolamkjlgpgmaaDoorZev3
namespace Go.Proofs.YtfolamkjlgpgmaaDoorZev
open Go.RowKit
set_option linter.unusedVariables false
set_option linter.unusedSectionVars false
variable [Sym] [Kin] [Glob]

/-- a cell that is a whole number of a kind: told, or a symbol's -/
def icell (k : IntKind) : Value → Bool
  | .int j _ => decide (j = k)
  | .chan (some i) => decide (Kin.kind i = some k)
  | _ => false
/-- are two such cells the same? none: that hangs on the symbols -/
def sameC : Value → Value → Option Bool
  | .int _ a, .int _ b => some (decide (a = b))
  | .chan (some i), .chan (some j) => if i = j then some true else none
  | _, _ => none
/-- an array of whole numbers: how many, of which kind -/
def rowKind (P : Program) (t : TypeId) : Option (Nat × IntKind) :=
  match P.underlying t with
  | some (.array n e) => match P.underlying e, P.info? e with
    | some (.int k), some i => if i.size = 1 then some (n, k) else none
    | _, _ => none
  | _ => none
def eqS (P : Program) (t : TypeId) (x y : Value) : Option Bool :=
  match rowKind P t, x, y with
  | some (n, k), .agg a, .agg b =>
    if (decide (a.size = n) && decide (b.size = n) && a.toList.all (icell k) && b.toList.all (icell k)) = true then
      (if (a.toList.zip b.toList).any (fun p => sameC p.1 p.2 == some false) = true then some false
      else if (a.toList.zip b.toList).all (fun p => sameC p.1 p.2 == some true) = true then some true else none)
    else none
  | _, _, _ => none

section
variable {P : Program} {β : Env}

theorem icell_vr {k : IntKind} {v v' : Value} (h : icell k v = true) (hv : VR β v v') : ∃ z, v' = .int k z := by
  cases hv <;> simp only [icell, Bool.false_eq_true, decide_eq_true_eq] at h
  · rename_i i hk e ho
    obtain ⟨z, hz⟩ := hk.2 k h
    exact ⟨z, e.trans hz⟩
  · subst h; exact ⟨_, rfl⟩
theorem sameC_vr {u v u' v' : Value} {b : Bool} (h : sameC u v = some b) (hu : VR β u u') (hv : VR β v v') {k : IntKind} {z y : Int} (e1 : u' = .int k z) (e2 : v' = .int k y) : decide (z = y) = b := by
  unfold sameC at h
  split at h
  · cases h; cases hu; cases hv; cases e1; cases e2; rfl
  · split at h
    · rename_i i j hij
      cases h
      subst hij
      cases hu with
      | sym _ p1 _ _ => cases hv with
        | sym _ p2 _ _ => rw [p1] at e1; rw [p2] at e2; rw [e1] at e2; cases e2; simp
    · cases h
  · cases h

/-- the cells of a row of whole numbers -/
def IntRow (k : IntKind) (c : Array Value) (z : Nat → Int) : Prop := ∀ i, i < c.size → c[i]? = some (.int k (z i))
theorem intRow_of {k : IntKind} {c c' : Array Value} (h1 : c.size = c'.size) (h2 : ∀ (i : Nat) (x x' : Value), c[i]? = some x → c'[i]? = some x' → VR β x x') (h : c.toList.all (icell k) = true) : ∃ z, IntRow k c' z := by
  have key : ∀ i, ∃ z, i < c'.size → c'[i]? = some (.int k z) := by
    intro i
    by_cases hi : i < c'.size
    · have hi' : i < c.size := by omega
      obtain ⟨z, hz⟩ := icell_vr (List.all_eq_true.1 h c[i] (by simp)) (h2 i _ _ (Array.getElem?_eq_getElem hi') (Array.getElem?_eq_getElem hi))
      exact ⟨z, fun _ => by rw [Array.getElem?_eq_getElem hi, hz]⟩
    · exact ⟨0, fun h => absurd h hi⟩
  exact ⟨fun i => Classical.choose (key i), fun i hi => Classical.choose_spec (key i) hi⟩

theorem run_part_int {e : TypeId} {k : IntKind} {c : Array Value} {i : Nat} {v : Value} (hu : P.underlying e = some (.int k)) (h : c[i]? = some v) (w : World) : (Go.part e c i).run P w = .ok v w := by
  unfold Go.part
  have : (Go.isAgg e).run P w = .ok false w := by unfold Go.isAgg; simp [run_underlying hu]
  rw [Sem.run_bind, this]
  simp [h]
theorem run_equalIn_int {d : Nat} {e : TypeId} {k : IntKind} {x y : Int} (hu : P.underlying e = some (.int k)) (w : World) : (Op.equalIn (d + 1) e (.int k x) (.int k y)).run P w = .ok (x == y) w := by
  simp [Op.equalIn, run_underlying hu]
theorem eqLoop {d : Nat} {e : TypeId} {k : IntKind} {a b : Array Value} {z u : Nat → Int} (hu : P.underlying e = some (.int k)) (ha : IntRow k a z) (hb : IntRow k b u) (w : World) :
    ∀ (l : List Nat), (∀ i ∈ l, i < a.size ∧ i < b.size) →
      (forIn (m := Sem) l ((none, ()) : Option Bool × Unit) fun i r => do
        let r1 ← Op.equalIn (d + 1) e (← Go.part e a (i * 1)) (← Go.part e b (i * 1))
        if (!r1) = true then pure (ForInStep.done (some false, ())) else pure (ForInStep.yield (none, ()))).run P w =
      .ok (if l.all (fun i => z i == u i) then (none, ()) else (some false, ())) w := by
  intro l
  induction l with
  | nil => intro _; simp
  | cons i l ih =>
    intro hl
    obtain ⟨h1, h2⟩ := hl i (by simp)
    rw [List.forIn_cons]
    simp only [Sem.run_bind, Nat.mul_one, run_part_int hu (ha i h1), run_part_int hu (hb i h2), Result.andThen_ok, run_equalIn_int hu]
    by_cases he : z i = u i
    · have e1 : (z i == u i) = true := by simp [he]
      rw [e1]
      simp only [Bool.not_true, Bool.false_eq_true, if_false, Sem.run_pure, Result.andThen_ok, List.all_cons, e1, Bool.true_and]
      have := ih (fun j hj => hl j (by simp [hj]))
      simpa using this
    · have e1 : (z i == u i) = false := by simpa using he
      rw [e1]
      simp [e1]

theorem rowKind_eq {t : TypeId} {n : Nat} {k : IntKind} (h : rowKind P t = some (n, k)) : ∃ e i, P.underlying t = some (.array n e) ∧ P.underlying e = some (.int k) ∧ P.info? e = some i ∧ i.size = 1 := by
  unfold rowKind at h
  split at h
  · rename_i m e hu
    split at h
    · rename_i k2 i h1 h2
      split at h
      · rename_i hs; cases h; exact ⟨e, i, hu, h1, h2, hs⟩
      · cases h
    · cases h
  · cases h
theorem run_equal_row {t : TypeId} {n : Nat} {k : IntKind} {a b : Array Value} {z u : Nat → Int} (ht : rowKind P t = some (n, k)) (hn : a.size = n) (hm : b.size = n) (ha : IntRow k a z) (hb : IntRow k b u) (w : World) :
    (Op.equal t (.agg a) (.agg b)).run P w = .ok ((List.range n).all fun i => z i == u i) w := by
  obtain ⟨e, inf, h1, h2, h3, h4⟩ := rowKind_eq ht
  have hs : (Go.sizeOf e).run P w = .ok 1 w := by simp [Go.sizeOf, typeInfo, h3, h4]
  have hd : Op.equal t (.agg a) (.agg b) = Op.equalIn (9998 + 1 + 1) t (.agg a) (.agg b) := rfl
  rw [hd]
  unfold Op.equalIn
  simp only [Sem.run_bind, run_underlying h1, Result.andThen_ok, hs]
  rw [Std.Legacy.Range.forIn_eq_forIn_range']
  have hl := eqLoop (P := P) (d := 9998) h2 ha hb w (List.range' 0 n) (fun i hi => by simp at hi; omega)
  have hr : List.range' 0 n = List.range n := by rw [List.range_eq_range']
  rw [hr] at hl
  simp only [Std.Legacy.Range.size, Nat.sub_zero, Nat.add_sub_cancel, Nat.div_one]
  rw [hr]
  rw [show (9998 + 1 : Nat) = 9999 from rfl] at hl
  rw [hl, Result.andThen_ok]
  cases (List.range n).all fun i => z i == u i <;> rfl

theorem eqS_run {t : TypeId} {x y x' y' : Value} {b : Bool} (hx : VR β x x') (hy : VR β y y') (he : eqS P t x y = some b) (w : World) : (Op.equal t x' y').run P w = .ok b w := by
  unfold eqS at he
  split at he
  case h_2 => cases he
  rename_i n k a c ht
  split at he
  case isFalse => cases he
  rename_i hc
  simp only [Bool.and_eq_true, decide_eq_true_eq] at hc
  obtain ⟨⟨⟨c1, c2⟩, c3⟩, c4⟩ := hc
  cases hx with
  | agg p1 p2 =>
  rename_i a'
  cases hy with
  | agg q1 q2 =>
  rename_i c'
  obtain ⟨z, hz⟩ := intRow_of p1 p2 c3
  obtain ⟨u, hu⟩ := intRow_of q1 q2 c4
  rw [run_equal_row ht (by omega) (by omega) hz hu w]
  have cell : ∀ (i : Nat), i < n → ∀ r, sameC (a.toList.getD i undef) (c.toList.getD i undef) = some r → decide (z i = u i) = r := by
    intro i hi r hr
    have e1 : a[i]? = some (a.toList.getD i undef) := by simp [List.getD_eq_getElem?_getD, show i < a.size by omega]
    have e2 : c[i]? = some (c.toList.getD i undef) := by simp [List.getD_eq_getElem?_getD, show i < c.size by omega]
    have f1 := hz i (by omega)
    have f2 := hu i (by omega)
    exact sameC_vr hr (p2 i _ _ e1 f1) (q2 i _ _ e2 f2) rfl rfl
  congr 1
  split at he
  · rename_i hany
    cases he
    obtain ⟨p, hp, hs⟩ := List.any_eq_true.1 hany
    obtain ⟨i, hi, hpi⟩ := List.mem_iff_getElem.1 hp
    have hlt : i < n := by have := hi; simp at this; omega
    rw [List.all_eq_false]
    refine ⟨i, List.mem_range.2 hlt, ?_⟩
    rw [List.getElem_zip] at hpi
    subst hpi
    have e1 : a.toList[i]'(by simp; omega) = a.toList.getD i undef := by simp [List.getD_eq_getElem?_getD, show i < a.size by omega]
    have e2 : c.toList[i]'(by simp; omega) = c.toList.getD i undef := by simp [List.getD_eq_getElem?_getD, show i < c.size by omega]
    simp only [beq_iff_eq] at hs
    have := cell i hlt false (by rw [← hs]; simp only [e1, e2])
    simpa using this
  · split at he
    · rename_i hall
      cases he
      rw [List.all_eq_true]
      intro i hi
      have hlt := List.mem_range.1 hi
      have h0 : i < (a.toList.zip c.toList).length := by simp; omega
      have hs := List.all_eq_true.1 hall _ (List.getElem_mem h0)
      rw [List.getElem_zip] at hs
      have e1 : a.toList[i]'(by simp; omega) = a.toList.getD i undef := by simp [List.getD_eq_getElem?_getD, show i < a.size by omega]
      have e2 : c.toList[i]'(by simp; omega) = c.toList.getD i undef := by simp [List.getD_eq_getElem?_getD, show i < c.size by omega]
      simp only [beq_iff_eq] at hs
      have := cell i hlt true (by rw [← hs]; simp only [e1, e2])
      simpa using this
    · cases he

theorem eqS_same {t : TypeId} {x y x' y' : Value} (hx : VR β x x') (hy : VR β y y') (he : eqS P t x y = some true) : x' = y' ∧ ∃ k c z, x' = .agg c ∧ IntRow k c z := by
  have hr := eqS_run hx hy he default
  unfold eqS at he
  split at he
  case h_2 => cases he
  rename_i n k a c ht
  split at he
  case isFalse => cases he
  rename_i hc
  simp only [Bool.and_eq_true, decide_eq_true_eq] at hc
  obtain ⟨⟨⟨c1, c2⟩, c3⟩, c4⟩ := hc
  cases hx with
  | agg p1 p2 =>
  rename_i a'
  cases hy with
  | agg q1 q2 =>
  rename_i c'
  obtain ⟨z, hz⟩ := intRow_of p1 p2 c3
  obtain ⟨u, hu⟩ := intRow_of q1 q2 c4
  rw [run_equal_row ht (by omega) (by omega) hz hu] at hr
  have hall : ((List.range n).all fun i => z i == u i) = true := by injection hr
  refine ⟨?_, k, a', z, rfl, hz⟩
  congr 1
  apply Array.ext_getElem?
  intro i
  rcases Nat.lt_or_ge i a'.size with hi | hi
  · rw [hz i hi, hu i (by omega)]
    have := List.all_eq_true.1 hall i (List.mem_range.2 (by omega))
    rw [eq_of_beq this]
  · rw [Array.getElem?_eq_none hi, Array.getElem?_eq_none (by omega)]
theorem sameBits_row {k : IntKind} {c : Array Value} {z : Nat → Int} (h : IntRow k c z) : Instr.sameBits 10000 (.agg c) (.agg c) = true := by
  rw [show Instr.sameBits 10000 (.agg c) (.agg c) = (c.size == c.size && (c.toList.zip c.toList).all fun (x, y) => Instr.sameBits 9999 x y) from rfl]
  simp only [beq_self_eq_true, Bool.true_and, List.all_eq_true]
  intro p hp
  obtain ⟨i, hi, e⟩ := List.mem_iff_getElem.1 hp
  have hlt : i < c.size := by simp at hi; exact hi
  have h1 := h i hlt
  rw [Array.getElem?_eq_getElem hlt] at h1
  have h2 := Option.some.inj h1
  rw [List.getElem_zip] at e
  subst e
  simp only [Array.getElem_toList, h2]
  show (k == k && z i == z i) = true
  simp

/-! ### keys of maps -/
theorem run_checkKey_int {d : Nat} {e : TypeId} {k : IntKind} {x : Int} (hu : P.underlying e = some (.int k)) (b : Bool) (w : World) : (Instr.checkKey b (d + 1) e (.int k x)).run P w = .ok () w := by
  unfold Instr.checkKey
  rw [Sem.run_bind, run_underlying hu, Result.andThen_ok]
  rfl
theorem run_checkKey_row {t : TypeId} {n : Nat} {k : IntKind} {a : Array Value} {z : Nat → Int} (ht : rowKind P t = some (n, k)) (hn : a.size = n) (ha : IntRow k a z) (b : Bool) (w : World) :
    (Instr.checkKey b 10000 t (.agg a)).run P w = .ok () w := by
  obtain ⟨e, inf, h1, h2, h3, h4⟩ := rowKind_eq ht
  have hs : ∀ w, (Go.sizeOf e).run P w = .ok 1 w := fun w => by simp [Go.sizeOf, typeInfo, h3, h4]
  have hd : Instr.checkKey b 10000 t (.agg a) = Instr.checkKey b (9998 + 1 + 1) t (.agg a) := rfl
  rw [hd]
  unfold Instr.checkKey
  simp only [Sem.run_bind, run_underlying h1, Result.andThen_ok]
  rw [Std.Legacy.Range.forIn_eq_forIn_range']
  have hl : ∀ (l : List Nat), (∀ i ∈ l, i < a.size) → (forIn (m := Sem) l () fun i r => do
        Instr.checkKey b (9998 + 1) e (← Go.part e a (i * (← Go.sizeOf e)))
        pure (ForInStep.yield ())).run P w = .ok () w := by
    intro l
    induction l with
    | nil => intro _; simp
    | cons i l ih =>
      intro hl
      rw [List.forIn_cons]
      simp only [Sem.run_bind, hs, Result.andThen_ok, Nat.mul_one, run_part_int h2 (ha i (hl i (by simp))), run_checkKey_int h2, Sem.run_pure]
      exact ih (fun j hj => hl j (by simp [hj]))
  have := hl (List.range' 0 n) (fun i hi => by simp at hi; omega)
  simp only [Std.Legacy.Range.size, Nat.sub_zero, Nat.add_sub_cancel, Nat.div_one]
  rw [this, Result.andThen_ok]; rfl

/-- where a key is, symbols let in; none: that hangs on them -/
def findS (P : Program) (kt : TypeId) (k : Value) : List MapEntry → Nat → Option (Option (Nat × Value))
  | [], _ => some none
  | e :: es, i => match eqS P kt k e.key with
    | some true => some (some (i, e.val))
    | some false => findS P kt k es (i + 1)
    | none => none
/-- a key that is a row of whole numbers -/
def rowKey (P : Program) (kt : TypeId) (k : Value) : Bool :=
  match rowKind P kt, k with
  | some (n, kd), .agg a => decide (a.size = n) && a.toList.all (icell kd)
  | _, _ => false
inductive EsV (β : Env) : List MapEntry → List MapEntry → Prop
  | nil : EsV β [] []
  | cons {e e' : MapEntry} {l l' : List MapEntry} (hk : VR β e.key e'.key) (h : EsV β l l') : EsV β (e :: l) (e' :: l')
theorem findS_run {kt : TypeId} {k k' : Value} (hk : VR β k k') (hr : rowKey P kt k = true) : ∀ (l l' : List MapEntry) (i : Nat) (r : Option (Nat × Value)), EsV β l l' → findS P kt k l i = some r →
    ∃ r', (∀ w, (Instr.findAsking kt k' l' i).run P w = .ok r' w) ∧ ((r = none ∧ r' = none) ∨ ∃ j e e', r = some (j, e.val) ∧ r' = some (j, e'.val) ∧ i ≤ j ∧ l[j - i]? = some e ∧ l'[j - i]? = some e' ∧ eqS P kt k e.key = some true) := by
  intro l
  induction l with
  | nil =>
    intro l' i r hl he
    cases hl
    cases he
    exact ⟨none, fun w => rfl, .inl ⟨rfl, rfl⟩⟩
  | cons e l ih =>
    intro l' i r hl he
    cases hl with
    | cons h1 h2 =>
    rename_i e' l'
    simp only [findS] at he
    split at he
    · rename_i hq
      cases he
      exact ⟨_, fun w => by simp only [Instr.findAsking, Sem.run_bind, eqS_run hk h1 hq w, Result.andThen_ok, if_true, Sem.run_pure], .inr ⟨i, e, e', rfl, rfl, Nat.le_refl _, by simp, by simp, hq⟩⟩
    · rename_i hq
      obtain ⟨r', q1, q2⟩ := ih l' (i + 1) r h2 he
      refine ⟨r', fun w => by simp only [Instr.findAsking, Sem.run_bind, eqS_run hk h1 hq w, Result.andThen_ok, Bool.false_eq_true, if_false, q1 w], ?_⟩
      rcases q2 with q2 | ⟨j, a, a', x1, x2, x3, x4, x5, x6⟩
      · exact .inl q2
      · refine .inr ⟨j, a, a', x1, x2, by omega, ?_, ?_, x6⟩
        · rw [show j - i = (j - (i + 1)) + 1 from by omega, List.getElem?_cons_succ]; exact x4
        · rw [show j - i = (j - (i + 1)) + 1 from by omega, List.getElem?_cons_succ]; exact x5
    · cases he
theorem findNow_array {n : Nat} {e : TypeId} {k : Value} (l : List MapEntry) (i : Nat) : Instr.findNow (.array n e) k l i = if l.isEmpty then some none else none := by
  cases l with
  | nil => rfl
  | cons x l => cases k <;> rfl
/-- the row whose cells are those of a key, in each world -/
theorem findKeyS_run {kt : TypeId} {k k' : Value} {l l' : List MapEntry} {r : Option (Nat × Value)} (hk : VR β k k') (hr : rowKey P kt k = true) (hl : EsV β l l') (he : findS P kt k l 0 = some r) :
    (∀ b w, (Instr.checkKey b 10000 kt k').run P w = .ok () w) ∧ ∃ r', (∀ w, (Instr.findKey kt k' l').run P w = .ok r' w) ∧ ((r = none ∧ r' = none) ∨ ∃ j e e', r = some (j, e.val) ∧ r' = some (j, e'.val) ∧ l[j]? = some e ∧ l'[j]? = some e' ∧ eqS P kt k e.key = some true) := by
  obtain ⟨r', q1, q2⟩ := findS_run hk hr l l' 0 r hl he
  unfold rowKey at hr
  split at hr
  case h_2 => cases hr
  rename_i n kd a ht
  simp only [Bool.and_eq_true, decide_eq_true_eq] at hr
  cases hk with
  | agg p1 p2 =>
  obtain ⟨z, hz⟩ := intRow_of p1 p2 hr.2
  obtain ⟨e, inf, h1, h2, h3, h4⟩ := rowKind_eq ht
  refine ⟨fun b w => run_checkKey_row ht (by omega) hz b w, r', fun w => ?_, ?_⟩
  · unfold Instr.findKey
    simp only [Sem.run_bind, run_underlying h1, Result.andThen_ok, findNow_array]
    cases hl with
    | nil => simpa [Instr.findAsking] using q1 w
    | cons _ _ => simpa using q1 w
  · simpa using q2
end
end Go.Proofs.YtfolamkjlgpgmaaDoorZev
