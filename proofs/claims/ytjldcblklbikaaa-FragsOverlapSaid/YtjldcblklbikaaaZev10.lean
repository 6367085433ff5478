/- Maps in a small world of labels. No condition. -/
import Derived.Test.YtjldcblklbikaaaZev9
namespace Go.Proofs.YtjldcblklbikaaaZev
open Go.RowKit
set_option linter.unusedVariables false

section
variable {P : Program} {w0 w w1 : World} {K : Nat → Prop} {ro : Nat → Bool} {β : Env} {H : Heap}

/-! ### maps -/
theorem Q.checkKey (b : Bool) : ∀ (d : Nat) (t : TypeId) (x : Value), flat x = true → Q P (Instr.checkKey b d t x) := by
  intro d
  induction d with
  | zero => intro t x _; exact Q.unsup _
  | succ d ih =>
    intro t x hx
    unfold Instr.checkKey
    refine (Q.underlying t).bind fun u => ?_
    split <;> first
      | exact Q.pure _
      | exact Q.stuck _
      | (simp [flat, bare] at hx; done)
      | skip
    · simp only [flat] at hx
      refine Q.bind (Q.forIn_range _ (fun f b => ?_) _ _) fun r => Q.pure _
      refine (Q.sizeOf _).bind fun n => Q.bind_part hx fun b1 h1 => (ih _ _ h1).bind fun r => Q.pure _
    · simp only [flat] at hx
      refine Q.bind (Q.forIn_array _ (fun f b => ?_) _ _) fun r => Q.pure _
      refine Q.ite ?_ (Q.pure _)
      exact Q.bind_part hx fun b1 h1 => (ih _ _ h1).bind fun r => Q.pure _

/-- two lists of entries with the same keys -/
def KsR (l l' : List MapEntry) : Prop := l.map (·.key) = l'.map (·.key)


def Same (l l' : List MapEntry) (i : Nat) (r r' : Option (Nat × Value)) : Prop :=
  (r = none ∧ r' = none) ∨ ∃ j e e', r = some (j, e.val) ∧ r' = some (j, e'.val) ∧ i ≤ j ∧ l[j - i]? = some e ∧ l'[j - i]? = some e'
theorem Same.cons {l l' : List MapEntry} {i : Nat} {r r' : Option (Nat × Value)} (h : Same l l' (i + 1) r r') (e e' : MapEntry) : Same (e :: l) (e' :: l') i r r' := by
  rcases h with h | ⟨j, a, a', h1, h2, h3, h4, h5⟩
  · exact .inl h
  · refine .inr ⟨j, a, a', h1, h2, by omega, ?_, ?_⟩
    · rw [show j - i = (j - (i + 1)) + 1 from by omega, List.getElem?_cons_succ]; exact h4
    · rw [show j - i = (j - (i + 1)) + 1 from by omega, List.getElem?_cons_succ]; exact h5
theorem findNow_same (kd : TypeDesc) (k : Value) : ∀ (l l' : List MapEntry) (i : Nat), KsR l l' →
    (Instr.findNow kd k l i = none → Instr.findNow kd k l' i = none) ∧ (∀ r, Instr.findNow kd k l i = some r → ∃ r', Instr.findNow kd k l' i = some r' ∧ Same l l' i r r') := by
  intro l
  induction l with
  | nil =>
    intro l' i h
    have : l' = [] := List.eq_nil_of_length_eq_zero (by have := congrArg List.length h; simp at this; omega)
    subst this
    exact ⟨fun h => h, fun r hr => ⟨r, hr, by simp only [Instr.findNow, Option.some.injEq] at hr; subst hr; exact .inl ⟨rfl, rfl⟩⟩⟩
  | cons e l ih =>
    intro l' i h
    cases l' with
    | nil => have := congrArg List.length h; simp at this
    | cons e' l' =>
      simp only [KsR, List.map_cons, List.cons.injEq] at h
      obtain ⟨h1, h2⟩ := h
      simp only [Instr.findNow, ← h1]
      cases hs : Instr.sameNow kd k e.key with
      | none => exact ⟨fun _ => rfl, fun r hr => by cases hr⟩
      | some b =>
        cases b with
        | true => exact ⟨fun hr => (by cases hr), fun r hr => ⟨_, rfl, .inr ⟨i, e, e', by cases hr; rfl, rfl, Nat.le_refl _, by simp, by simp⟩⟩⟩
        | false =>
          obtain ⟨a, b⟩ := ih l' (i + 1) h2
          exact ⟨a, fun r hr => let ⟨r', x, y⟩ := b r hr; ⟨r', x, y.cons e e'⟩⟩
theorem findAsking_same {kt : TypeId} {k : Value} (hk : flat k = true) : ∀ (l l' : List MapEntry) (i : Nat), KsR l l' → (∀ e ∈ l, flat e.key = true) →
    ∀ r w2, (Instr.findAsking kt k l i).run P default = .ok r w2 → ∃ r', Same l l' i r r' ∧ ∀ w, (Instr.findAsking kt k l' i).run P w = .ok r' w := by
  intro l
  induction l with
  | nil =>
    intro l' i h _ r w2 hr
    have : l' = [] := List.eq_nil_of_length_eq_zero (by have := congrArg List.length h; simp at this; omega)
    subst this
    simp only [Instr.findAsking, Sem.run_pure, Result.ok.injEq] at hr
    exact ⟨none, .inl ⟨hr.1.symm, rfl⟩, fun w => rfl⟩
  | cons e l ih =>
    intro l' i h hf r w2 hr
    cases l' with
    | nil => have := congrArg List.length h; simp at this
    | cons e' l' =>
      simp only [KsR, List.map_cons, List.cons.injEq] at h
      obtain ⟨h1, h2⟩ := h
      simp only [Instr.findAsking, Sem.run_bind] at hr
      have hq := Q.equal (P := P) kt hk (hf e (by simp))
      cases hx : (Op.equal kt k e.key).run P default with
      | halt y w3 => rw [hx] at hr; cases hr
      | ok b w3 =>
        have hq' := hq b w3 hx
        have hd := hq' default
        rw [hx] at hd
        simp only [Result.ok.injEq, true_and] at hd
        rw [hx, Result.andThen_ok] at hr
        cases b with
        | true =>
          simp only [if_true, Sem.run_pure, Result.ok.injEq] at hr
          refine ⟨some (i, e'.val), .inr ⟨i, e, e', hr.1.symm, rfl, Nat.le_refl _, by simp, by simp⟩, fun w => ?_⟩
          simp only [Instr.findAsking, Sem.run_bind, ← h1, hq' w, Result.andThen_ok, if_true, Sem.run_pure]
        | false =>
          simp only [Bool.false_eq_true, if_false] at hr
          rw [hd] at hr
          obtain ⟨r', a, b⟩ := ih l' (i + 1) h2 (fun x hx => hf x (by simp [hx])) r w2 hr
          refine ⟨r', a.cons e e', fun w => ?_⟩
          simp only [Instr.findAsking, Sem.run_bind, ← h1, hq' w, Result.andThen_ok, Bool.false_eq_true, if_false, b w]

theorem findKey_same {kt : TypeId} {k : Value} (hk : flat k = true) {l l' : List MapEntry} (h : KsR l l') (hf : ∀ e ∈ l, flat e.key = true) {r : Option (Nat × Value)}
    (hr : pureRun P (Instr.findKey kt k l) = some r) : ∃ r', Same l l' 0 r r' ∧ ∀ w, (Instr.findKey kt k l').run P w = .ok r' w := by
  unfold pureRun at hr
  split at hr
  case h_2 => cases hr
  rename_i a w2 hx
  cases hr
  unfold Instr.findKey at hx ⊢
  rw [Sem.run_bind] at hx
  have hq := Q.underlying (P := P) kt
  cases hu : (underlying kt).run P default with
  | halt y w3 => rw [hu] at hx; cases hx
  | ok d w3 =>
    have hq' := hq d w3 hu
    have hd := hq' default
    rw [hu] at hd
    simp only [Result.ok.injEq, true_and] at hd
    rw [hu, Result.andThen_ok, hd] at hx
    obtain ⟨s1, s2⟩ := findNow_same d k l l' 0 h
    cases hn : Instr.findNow d k l 0 with
    | none =>
      rw [hn] at hx
      obtain ⟨r', a, b⟩ := findAsking_same hk l l' 0 h hf _ _ hx
      exact ⟨r', a, fun w => by rw [Sem.run_bind, hq' w, Result.andThen_ok, s1 hn]; exact b w⟩
    | some q =>
      rw [hn] at hx
      simp only [Sem.run_pure, Result.ok.injEq] at hx
      obtain ⟨r', a, b⟩ := s2 q hn
      rw [hx.1] at b
      exact ⟨r', b, fun w => by rw [Sem.run_bind, hq' w, Result.andThen_ok, a]; rfl⟩

/-- a map's entries, their keys nowhere -/
def mapE (H : Heap) (x : Value) : Option (List MapEntry) :=
  match x with
  | .map none => some []
  | .map (some l) => match H[l]? with
    | some (some (.map es _)) => if es.toList.all (fun e => flat e.key) then some es.toList else none
    | _ => none
  | _ => none
def zeroV (P : Program) (t : TypeId) : Option Value :=
  match P.info? t with
  | some i => match i.zero with
    | some z => if still z then some z else none
    | none => none
  | none => none
theorem zeroV_run {t : TypeId} {z : Value} (h : zeroV P t = some z) : (∀ w, (zeroValue t).run P w = .ok z w) ∧ still z = true := by
  unfold zeroV at h
  split at h
  · rename_i i hi
    split at h
    · rename_i z hz
      split at h
      · rename_i hb; cases h; exact ⟨fun w => by simp [zeroValue, typeInfo, hi, hz], hb⟩
      · cases h
    · cases h
  · cases h

def lookE (P : Program) (H : Heap) (t : TypeId) (x ix : Value) (ok : Bool) : Option Value :=
  match P.underlying t with
  | some (.map kt et) =>
    match mapE H x with
    | some l =>
      if flat ix = true then
        match pureRun P (Instr.checkKey l.isEmpty 10000 kt ix), pureRun P (Instr.findKey kt ix l) with
        | some _, some none => match zeroV P et with
          | some z => some (if ok then .tuple #[z, .bool false] else z)
          | none => none
        | some _, some (some (_, v)) => some (if ok then .tuple #[v, .bool true] else v)
        | _, _ => none
      else none
    | none => none
  | _ => none

/-- what a map holds, here and there -/
theorem mapE_run (h : M w0 K ro β H w) {x x' : Value} {l : List MapEntry} (hx : VR β x x') (he : mapE H x = some l) :
    ∃ l', KsR l l' ∧ l.length = l'.length ∧ (∀ e ∈ l, flat e.key = true) ∧ (∀ (i : Nat) (e e' : MapEntry), l[i]? = some e → l'[i]? = some e' → VR β e.val e'.val ∧ e'.born = e.born) ∧
      (x' = .map none ∧ l' = [] ∨ ∃ b es k, x' = .map (some b) ∧ w.heap[b]? = some (.map es k) ∧ es.toList = l') := by
  unfold mapE at he
  split at he
  · cases he; cases hx; exact ⟨[], rfl, rfl, by simp, by simp, .inl ⟨rfl, rfl⟩⟩
  · split at he
    · rename_i la es k hl
      split at he
      · rename_i hf
        cases he
        cases hx with
        | map hb =>
          obtain ⟨p, es', a1, a2, a3, a4, a5⟩ := h.map hl hb
          have hf' : ∀ e ∈ es.toList, flat e.key = true := fun e he => List.all_eq_true.1 hf e he
          refine ⟨es'.toList, ?_, by simpa using a4, hf', fun i e e' h1 h2 => ?_, .inr ⟨_, es', k, rfl, a3, rfl⟩⟩
          · apply List.ext_getElem?
            intro i
            rw [List.getElem?_map, List.getElem?_map]
            rcases Nat.lt_or_ge i es.size with hi | hi
            · have hi' : i < es'.size := by omega
              have e1 : es.toList[i]? = some es[i] := by simp [hi]
              have e2 : es'.toList[i]? = some es'[i] := by simp [hi']
              rw [e1, e2]
              have := (a5 i es[i] es'[i] (Array.getElem?_eq_getElem hi) (Array.getElem?_eq_getElem hi')).2.1
              simp only [Option.map_some]
              rw [flat_eq (hf' es[i] (by simp)) this]
            · rw [List.getElem?_eq_none (by simpa using hi), List.getElem?_eq_none (by simp; omega)]
          · rw [Array.getElem?_toList] at h1 h2
            obtain ⟨b1, b2, b3⟩ := a5 i e e' h1 h2
            exact ⟨b3, b1⟩
      · cases he
    · cases he
  · cases he

theorem lookE_run (h : M w0 K ro β H w) {t : TypeId} {x x' ix ix' v : Value} {ok : Bool} (hx : VR β x x') (hi : VR β ix ix') (he : lookE P H t x ix ok = some v) :
    ∃ v', (Instr.lookup t x' ix' ok).run P w = .ok v' w ∧ VR β v v' := by
  unfold lookE at he
  split at he
  case h_2 => cases he
  rename_i kt et hu
  split at he
  case h_2 => cases he
  rename_i l hl
  split at he
  case isFalse => cases he
  rename_i hf
  have := flat_eq hf hi
  subst this
  obtain ⟨l', k1, k2, k3, k4, k5⟩ := mapE_run h hx hl
  have hemp : l.isEmpty = l'.isEmpty := by cases l <;> cases l' <;> simp at k2 ⊢
  have hrun : ∀ r', (∀ w, (Instr.checkKey l'.isEmpty 10000 kt ix').run P w = .ok () w) → (∀ w, (Instr.findKey kt ix' l').run P w = .ok r' w) →
      (Instr.lookup t x' ix' ok).run P w = ((do
        let (v, b) ← match r' with
          | some (_, v) => pure (v, true)
          | none => pure (← zeroValue et, false)
        pure (if ok then .tuple #[v, .bool b] else v) : Sem Value).run P w) := by
    intro r' c1 c2
    rcases k5 with ⟨rfl, rfl⟩ | ⟨b, es, k, rfl, hb, rfl⟩
    · have c1' : ∀ w, (Instr.checkKey true 10000 kt ix').run P w = .ok () w := c1
      simp [Instr.lookup, run_underlying hu, c1', c2]
      cases r' <;> rfl
    · have c1' : ∀ w, (Instr.checkKey es.isEmpty 10000 kt ix').run P w = .ok () w := by
        have e : es.toList.isEmpty = es.isEmpty := by cases es; simp
        rw [e] at c1; exact c1
      simp [Instr.lookup, run_underlying hu, getObj, Sem.run, hb, c1', c2]
      cases r' <;> rfl
  split at he
  · rename_i u hc hfk
    have hck := (Q.checkKey (P := P) l.isEmpty 10000 kt ix' hf).run hc
    rw [hemp] at hck
    obtain ⟨r', s1, s2⟩ := findKey_same (P := P) hf k1 k3 hfk
    split at he
    · rename_i z hz
      cases he
      obtain ⟨z1, z2⟩ := zeroV_run hz
      rcases s1 with ⟨_, rfl⟩ | ⟨j, e, e', q, _⟩
      · rw [hrun none hck s2]
        cases ok with
        | true => exact ⟨.tuple #[z, .bool false], by simp [z1], .tuple rfl fun i x y a b => by
            match i with
            | 0 => simp at a b; subst a; subst b; exact still_vr z2
            | 1 => simp at a b; subst a; subst b; exact .bool _
            | i + 2 => simp at a⟩
        | false => exact ⟨z, by simp [z1], still_vr z2⟩
      · cases q
    · cases he
  · rename_i u j v2 hc hfk
    have hck := (Q.checkKey (P := P) l.isEmpty 10000 kt ix' hf).run hc
    rw [hemp] at hck
    obtain ⟨r', s1, s2⟩ := findKey_same (P := P) hf k1 k3 hfk
    cases he
    rcases s1 with ⟨q, _⟩ | ⟨j, e, e', q, rfl, _, q2, q3⟩
    · cases q
    · cases q
      rw [hrun _ hck s2]
      have hv := (k4 _ _ _ q2 q3).1
      cases ok with
      | true => exact ⟨.tuple #[e'.val, .bool true], by simp, .tuple rfl fun i x y a b => by
          match i with
          | 0 => simp at a b; subst a; subst b; exact hv
          | 1 => simp at a b; subst a; subst b; exact .bool _
          | i + 2 => simp at a⟩
      | false => exact ⟨e'.val, by simp, hv⟩
  · cases he
end
end Go.Proofs.YtjldcblklbikaaaZev
