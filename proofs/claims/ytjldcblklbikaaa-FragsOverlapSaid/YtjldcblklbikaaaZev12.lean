/- Entries of maps, going through maps and texts, in a small world of labels. No condition. -/
import Derived.Test.YtjldcblklbikaaaZev11
namespace Go.Proofs.YtjldcblklbikaaaZev
open Go.RowKit
set_option linter.unusedVariables false

section
variable {P : Program} {w0 w w1 : World} {K : Nat → Prop} {ro : Nat → Bool} {β : Env} {H : Heap}

def mapEntE (P : Program) (ro : Nat → Bool) (H : Heap) (t : TypeId) (m k : Value) : Option (Value × Heap) :=
  match P.underlying t, m with
  | some (.map kt et), .map (some l) =>
    match H[l]?, ro l with
    | some (some (.map es c)), false =>
      match seekE P kt false k es with
      | some none => match zeroV P et with
        | some z => some (.tuple #[z, goInt c], H.set l (some (.map (es.push ⟨k, z, c⟩) (c + 1))))
        | none => none
      | some (some (j, v)) => match es[j]? with
        | some e => if Instr.sameBits 10000 e.key k = true then some (.tuple #[e.val, goInt e.born], H.set l (some (.map (es.setIfInBounds j ⟨k, e.val, e.born⟩) c))) else none
        | none => none
      | none => none
    | _, _ => none
  | _, _ => none
theorem tuple2_vr {a a' b b' : Value} (h : VR β a a') (k : VR β b b') : VR β (.tuple #[a, b]) (.tuple #[a', b']) :=
  .tuple rfl fun i x y p q => by
    match i with
    | 0 => simp at p q; subst p; subst q; exact h
    | 1 => simp at p q; subst p; subst q; exact k
    | i + 2 => simp at p
theorem mapEntE_run (h : M w0 K ro β H w) {t : TypeId} {m m' k k' v : Value} {H' : Heap} (hm : VR β m m') (hk : VR β k k') (he : mapEntE P ro H t m k = some (v, H')) :
    ∃ v' w1, (Instr.mapEntry t m' k').run P w = .ok v' w1 ∧ M w0 K ro β H' w1 ∧ VR β v v' := by
  unfold mapEntE at he
  split at he
  case h_2 => cases he
  rename_i kt et l hu
  split at he
  case h_2 => cases he
  rename_i es c hl hro
  cases hm with
  | map hb =>
  obtain ⟨es', a1, a2, a3⟩ := h.setMap hl hb
  split at he
  · rename_i hs
    split at he
    · rename_i z hz
      cases he
      obtain ⟨z1, z2⟩ := zeroV_run hz
      obtain ⟨rfl, b1, r', b2, b3⟩ := seekE_run (P := P) a2 hk hs
      rcases b3 with ⟨_, rfl⟩ | ⟨j, e, e', q, _⟩
      · exact ⟨_, _, by simp [Instr.mapEntry, run_underlying hu, run_getObj_map a1, b1, b2, z1, run_setObj_map a1, goInt], a3 _ _ _ hro (a2.push c hk (still_vr z2)), tuple2_vr (still_vr z2) (.int _ _)⟩
      · cases q
    · cases he
  · rename_i j v2 hs
    split at he
    · rename_i e hj
      split at he
      · rename_i hsb
        cases he
        obtain ⟨rfl, b1, r', b2, b3⟩ := seekE_run (P := P) a2 hk hs
        rcases b3 with ⟨q, _⟩ | ⟨j2, e2, e2', q, rfl, q3, q4, q5, q6, q7⟩
        · cases q
        · cases q
          rw [hj] at q3; cases q3
          have hkey : ((es'[j]?).map (·.key)).getD k' = e.key := by rw [q4]; exact q5
          have hst : ∀ w, (Instr.keyThatStays (((es'[j]?).map (·.key)).getD k') k').run P w = .ok k' w := fun w => by
            rw [hkey]; simp [Instr.keyThatStays, hsb]
          have hborn : ((es'[j]?).map (fun x => (x.born : Int))).getD 0 = e.born := by rw [q4]; simp [q6]
          refine ⟨.tuple #[e2'.val, goInt e.born], _, ?_, a3 _ _ _ hro (a2.set hj (e1 := ⟨k', e.val, e.born⟩) (f := fun e => { e with key := k' }) fun e0' h0 => ?_), tuple2_vr q7 (.int _ _)⟩
          · simp only [Instr.mapEntry, Sem.run_bind, run_underlying hu, Result.andThen_ok, run_getObj_map a1, b1, b2, hst, run_setObj_map a1, Sem.run_pure]
            have hb2 : (((es'[j]?).map (·.born)).getD 0 : Int) = e.born := by rw [q4]; simp [q6]
            simp [hb2]
          · rw [q4] at h0; cases h0
            exact ⟨q6, hk, q7⟩
      · cases he
    · cases he
  · cases he

def entStoreE (ro : Nat → Bool) (H : Heap) (m s v : Value) : Option Heap :=
  match m, s with
  | .map (some l), .int _ n =>
    match H[l]?, ro l with
    | some (some (.map es c)), false =>
      match es.toList.findIdx? (fun e => (e.born : Int) == n) with
      | some j => match es[j]? with
        | some e => some (H.set l (some (.map (es.setIfInBounds j ⟨e.key, v, e.born⟩) c)))
        | none => none
      | none => none
    | _, _ => none
  | _, _ => none
theorem entStoreE_run (h : M w0 K ro β H w) {t : TypeId} {m m' s s' v v' : Value} {H' : Heap} (hm : VR β m m') (hs : VR β s s') (hv : VR β v v') (he : entStoreE ro H m s v = some H') :
    ∃ w1, (Instr.entryStore t m' s' v').run P w = .ok () w1 ∧ M w0 K ro β H' w1 := by
  unfold entStoreE at he
  split at he
  case h_2 => cases he
  rename_i l kk n
  split at he
  case h_2 => cases he
  rename_i es c hl hro
  cases hs
  cases hm with
  | map hb =>
  obtain ⟨es', a1, a2, a3⟩ := h.setMap hl hb
  split at he
  case h_2 => cases he
  rename_i j hj
  split at he
  case h_2 => cases he
  rename_i e he2
  cases he
  have hj' : es'.findIdx? (fun e => (e.born : Int) == n) = some j := by
    have e1 : es'.findIdx? (fun e => (e.born : Int) == n) = es'.toList.findIdx? (fun e => (e.born : Int) == n) := by cases es'; simp
    rw [e1, a2.list.findIdx _ (fun e e' hb => by rw [hb])]; exact hj
  refine ⟨_, ?_, a3 _ _ _ hro (a2.set he2 (e1 := ⟨e.key, v, e.born⟩) (f := fun e => { e with val := v' }) fun e0' h0 => ?_)⟩
  · simp only [Instr.entryStore, Sem.run_bind, run_getObj_map a1, Result.andThen_ok, asInt, asIntOf, Sem.run_pure, hj', run_setObj_map a1]
  · obtain ⟨x, y, z⟩ := a2.2 j e e0' he2 h0
    exact ⟨x, y, hv⟩

/-! ### going through -/
def rangeE (P : Program) (H : Heap) (t : TypeId) (x : Value) : Option (Value × Heap) :=
  match P.underlying t, x with
  | some .string, .string s => some (.pointer (some ⟨H.length, 0, none⟩), H ++ [some (.stringIter s 0)])
  | some (.map _ _), .map none => some (.pointer (some ⟨H.length, 0, none⟩), H ++ [some (.mapIter none 0 #[] 0)])
  | some (.map _ _), .map (some l) =>
    match H[l]? with
    | some (some (.map _ c)) => some (.pointer (some ⟨H.length, 0, none⟩), H ++ [some (.mapIter (some l) c #[] c)])
    | _ => none
  | _, _ => none
theorem rangeE_run (h : M w0 K ro β H w) {t : TypeId} {x x' v : Value} {H' : Heap} (hx : VR β x x') (he : rangeE P H t x = some (v, H')) :
    ∃ v' w1 β', (Instr.range t x').run P w = .ok v' w1 ∧ Ext β β' ∧ M w0 K ro β' H' w1 ∧ VR β' v v' := by
  unfold rangeE at he
  split at he
  · rename_i s hu
    cases he
    cases hx
    exact ⟨_, w.alloc (.stringIter s 0), _, by simp [Instr.range, run_underlying hu], Ext.push _ _, h.alloc 0 _ _ (.stringIter s 0 rfl), new_ptr h _⟩
  · rename_i hu
    cases he
    cases hx
    exact ⟨_, w.alloc (.mapIter none 0 #[] 0), _, by simp [Instr.range, run_underlying hu], Ext.push _ _, h.alloc 0 _ _ (.mapIterN rfl), new_ptr h _⟩
  · rename_i l hu
    split at he
    · rename_i es c hl
      cases he
      cases hx with
      | map hb =>
        rename_i b
        obtain ⟨es', a1, a2, a3⟩ := h.setMap hl hb
        exact ⟨_, w.alloc (.mapIter (some b) c #[] c), _, by simp [Instr.range, run_underlying hu, run_getObj_map a1], Ext.push _ _, h.alloc 0 _ _ (.mapIter rfl (hb.mono (Ext.push _ _))), new_ptr h _⟩
    · cases he
  · cases he


theorem OR.iter {p : Spot} {o o' : Obj} (h : OR β p o o') (ho : (∃ s k, o = .stringIter s k) ∨ ∃ m a b c, o = .mapIter m a b c) : p.s = 0 := by
  rcases ho with ⟨s, k, rfl⟩ | ⟨m, a, b, c, rfl⟩
  · cases h; assumption
  · cases h <;> assumption

def nextE (ro : Nat → Bool) (H : Heap) (it : Value) (str : Bool) : Option (Value × Heap) :=
  match it with
  | .pointer (some ⟨r, 0, none⟩) =>
    match H[r]?, str with
    | some (some (.stringIter s pos)), true =>
      if pos < s.size ∧ ro r = false then some (.tuple #[.bool true, goInt pos, .int .i32 (Utf8.decode s pos).1], H.set r (some (.stringIter s (pos + (Utf8.decode s pos).2))))
      else if pos < s.size then none else some (.tuple #[.bool false], H)
    | some (some (.mapIter none _ _ _)), false => some (.tuple #[.bool false], H)
    | some (some (.mapIter (some m) since seen last)), false =>
      match H[m]? with
      | some (some (.map es clock)) =>
        if (!seen.isEmpty && !es.toList.isEmpty && es.toList.all (fun e => decide (e.born ≥ last))) = true then none
        else
          match (es.toList.filter fun e => !seen.contains e.born).filter (fun e => decide (e.born < since)), (es.toList.filter fun e => !seen.contains e.born).filter (fun e => decide (e.born ≥ since)) with
          | [], [] => some (.tuple #[.bool false], H)
          | [e], [] => if ro r = true then none else some (.tuple #[.bool true, e.key, e.val], H.set r (some (.mapIter (some m) since (seen.push e.born) clock)))
          | _, _ => none
      | _ => none
    | _, _ => none
  | _ => none

theorem tuple3_vr {a a' b b' c c' : Value} (h : VR β a a') (k : VR β b b') (m : VR β c c') : VR β (.tuple #[a, b, c]) (.tuple #[a', b', c']) :=
  .tuple rfl fun i x y p q => by
    match i with
    | 0 => simp at p q; subst p; subst q; exact h
    | 1 => simp at p q; subst p; subst q; exact k
    | 2 => simp at p q; subst p; subst q; exact m
    | i + 3 => simp at p
theorem tuple1_vr {a a' : Value} (h : VR β a a') : VR β (.tuple #[a]) (.tuple #[a']) :=
  .tuple rfl fun i x y p q => by
    match i with
    | 0 => simp at p q; subst p; subst q; exact h
    | i + 1 => simp at p

theorem M.iter (h : M w0 K ro β H w) {r : Nat} {o : Obj} {v' : Value} (hl : H[r]? = some (some o)) (hv : VR β (.pointer (some ⟨r, 0, none⟩)) v') (ho : (∃ s k, o = .stringIter s k) ∨ ∃ m a b c, o = .mapIter m a b c) :
    ∃ p o', β[r]? = some (some p) ∧ v' = .pointer (some ⟨p.b, 0, none⟩) ∧ w.heap[p.b]? = some o' ∧ OR β p o o' := by
  obtain ⟨p, o', h1, h2, h3⟩ := h.obj r o hl
  cases hv with
  | ptr k =>
    obtain ⟨_, rfl⟩ := k.live h1
    exact ⟨p, o', h1, by simp [h3.iter ho], h2, h3⟩

theorem EsL.nil_of {l' : List MapEntry} (h : EsL β [] l') : l' = [] := by cases h; rfl
theorem EsL.one_of {e : MapEntry} {l' : List MapEntry} (h : EsL β [e] l') : ∃ e', l' = [e'] ∧ e'.born = e.born ∧ VR β e.key e'.key ∧ VR β e.val e'.val := by
  cases h with
  | cons x y z t => cases t; exact ⟨_, rfl, x, y, z⟩
theorem nextE_run (h : M w0 K ro β H w) {it it' v : Value} {str : Bool} {t : TypeId} {H' : Heap} (hi : VR β it it') (he : nextE ro H it str = some (v, H')) :
    ∃ v' w1, (Instr.next it' str t).run P w = .ok v' w1 ∧ M w0 K ro β H' w1 ∧ VR β v v' := by
  unfold nextE at he
  split at he
  case h_2 => cases he
  rename_i r
  split at he
  · rename_i s pos hl
    obtain ⟨p, o', a1, rfl, a3, a4⟩ := h.iter hl hi (.inl ⟨_, _, rfl⟩)
    have hs := a4.iter (.inl ⟨_, _, rfl⟩)
    cases a4
    have hg : (getObj p.b).run P w = .ok (.stringIter s pos) w := by simp only [getObj, Sem.run, a3]
    split at he
    · rename_i hp
      obtain ⟨hp, hro⟩ := hp
      cases he
      refine ⟨_, { w with heap := w.heap.setIfInBounds p.b (.stringIter s (pos + (Utf8.decode s pos).2)) }, ?_, h.turn a1 hro _ _ (Chg.setObj w p.b _) (setObj_at a3) (.stringIter _ _ hs), tuple3_vr (.bool _) (.int _ _) (.int _ _)⟩
      have hso : (setObj p.b (.stringIter s (pos + (Utf8.decode s pos).2))).run P w = .ok () { w with heap := w.heap.setIfInBounds p.b (.stringIter s (pos + (Utf8.decode s pos).2)) } := by simp only [setObj, Sem.run, a3]
      simp [Instr.next, hg, hp, hso, goInt]
    · split at he
      · cases he
      rename_i hp
      cases he
      exact ⟨_, w, by simp [Instr.next, hg, hp], h, tuple1_vr (.bool _)⟩
  · rename_i a b c hl
    obtain ⟨p, o', a1, rfl, a3, a4⟩ := h.iter hl hi (.inr ⟨_, _, _, _, rfl⟩)
    cases a4
    cases he
    have hg : (getObj p.b).run P w = .ok (.mapIter none a b c) w := by simp only [getObj, Sem.run, a3]
    exact ⟨_, w, by simp [Instr.next, hg], h, tuple1_vr (.bool _)⟩
  · rename_i m since seen last hl
    obtain ⟨p, o', a1, rfl, a3, a4⟩ := h.iter hl hi (.inr ⟨_, _, _, _, rfl⟩)
    have hs := a4.iter (.inr ⟨_, _, _, _, rfl⟩)
    split at he
    case h_2 => cases he
    rename_i es clock hm
    cases a4 with
    | mapIter hs2 hb =>
    rename_i b
    obtain ⟨es', c1, c2, c3⟩ := h.setMap hm hb
    have hg : (getObj p.b).run P w = .ok (.mapIter (some b) since seen last) w := by simp only [getObj, Sem.run, a3]
    have hgm := run_getObj_map (P := P) c1
    have hL := c2.list
    have hall : es'.all (fun e => decide (e.born ≥ last)) = es.toList.all (fun e => decide (e.born ≥ last)) := by
      rw [← Array.all_toList]; exact hL.all _ (fun e e' hb => by rw [hb])
    have hemp : es'.isEmpty = es.toList.isEmpty := by
      have := c2.1
      cases es; cases es'
      rename_i l l'
      cases l <;> cases l' <;> simp at this ⊢
    split at he
    · cases he
    · rename_i hbad
      have hbad' : (!seen.isEmpty && !es'.isEmpty && es'.all (fun e => decide (e.born ≥ last))) = false := by rw [hemp, hall]; simpa using hbad
      have hleft := hL.filter (fun e => !seen.contains e.born) (fun e e' hb => by rw [hb])
      have hold := hleft.filter (fun e => decide (e.born < since)) (fun e e' hb => by rw [hb])
      have hnew := hleft.filter (fun e => decide (e.born ≥ since)) (fun e e' hb => by rw [hb])
      have eold : (es'.filter fun e => !seen.contains e.born).filter (fun e => decide (e.born < since)) = ((es'.toList.filter fun e => !seen.contains e.born).filter (fun e => decide (e.born < since))).toArray := by
        apply Array.ext'; simp
      have enew : (es'.filter fun e => !seen.contains e.born).filter (fun e => decide (e.born ≥ since)) = ((es'.toList.filter fun e => !seen.contains e.born).filter (fun e => decide (e.born ≥ since))).toArray := by
        apply Array.ext'; simp
      split at he
      · rename_i q1 q2
        cases he
        rw [q1] at hold; rw [q2] at hnew
        have o1 : (es'.toList.filter fun e => !seen.contains e.born).filter (fun e => decide (e.born < since)) = [] := hold.nil_of
        have o2 : (es'.toList.filter fun e => !seen.contains e.born).filter (fun e => decide (e.born ≥ since)) = [] := hnew.nil_of
        rw [o1] at eold; rw [o2] at enew
        refine ⟨_, w, ?_, h, tuple1_vr (.bool false)⟩
        simp only [Instr.next, Sem.run_bind, hg, Result.andThen_ok, hgm]
        rw [hbad']
        simp only [Bool.false_eq_true, if_false]
        rw [eold, enew]
        simp [choose, Sem.run, Question.forced]
      · rename_i e q1 q2
        split at he
        · cases he
        rename_i hro
        cases he
        rw [q1] at hold; rw [q2] at hnew
        obtain ⟨e', o1, b1, b2, b3⟩ : ∃ e', (es'.toList.filter fun e => !seen.contains e.born).filter (fun e => decide (e.born < since)) = [e'] ∧ e'.born = e.born ∧ VR β e.key e'.key ∧ VR β e.val e'.val := hold.one_of
        have o2 : (es'.toList.filter fun e => !seen.contains e.born).filter (fun e => decide (e.born ≥ since)) = [] := hnew.nil_of
        rw [o1] at eold; rw [o2] at enew
        have hso : (setObj p.b (.mapIter (some b) since (seen.push e.born) clock)).run P w = .ok () { w with heap := w.heap.setIfInBounds p.b (.mapIter (some b) since (seen.push e.born) clock) } := by simp only [setObj, Sem.run, a3]
        refine ⟨_, _, ?_, h.turn a1 (by simpa using hro) _ _ (Chg.setObj w p.b _) (setObj_at a3) (.mapIter hs hb), tuple3_vr (.bool true) b2 b3⟩
        simp only [Instr.next, Sem.run_bind, hg, Result.andThen_ok, hgm]
        rw [hbad']
        simp only [Bool.false_eq_true, if_false]
        rw [eold, enew]
        simp [choose, Sem.run, Question.forced, b1, hso]
      · cases he
  · cases he

def entE (H : Heap) (it : Value) : Option Value :=
  match it with
  | .pointer (some ⟨r, 0, none⟩) =>
    match H[r]? with
    | some (some (.mapIter (some m) _ seen last)) =>
      match H[m]?, seen.back? with
      | some (some (.map es clock)), some stamp =>
        if clock = last then match es.toList.find? (fun e => e.born == stamp) with
          | some e => some (.tuple #[e.key, e.val])
          | none => none
        else none
      | _, _ => none
    | _ => none
  | _ => none
theorem entE_run (h : M w0 K ro β H w) {it it' v : Value} (hi : VR β it it') (he : entE H it = some v) : ∃ v', (Instr.entry it').run P w = .ok v' w ∧ VR β v v' := by
  unfold entE at he
  split at he
  case h_2 => cases he
  rename_i r
  split at he
  case h_2 => cases he
  rename_i m since seen last hl
  obtain ⟨p, o', a1, rfl, a3, a4⟩ := h.iter hl hi (.inr ⟨_, _, _, _, rfl⟩)
  split at he
  case h_2 => cases he
  rename_i es clock stamp hm hst
  split at he
  case isFalse => cases he
  rename_i hc
  split at he
  case h_2 => cases he
  rename_i e hf
  cases he
  cases a4 with
  | mapIter hs2 hb =>
  rename_i b
  obtain ⟨es', c1, c2, c3⟩ := h.setMap hm hb
  have hg : (getObj p.b).run P w = .ok (.mapIter (some b) since seen last) w := by simp only [getObj, Sem.run, a3]
  have hgm := run_getObj_map (P := P) c1
  obtain ⟨e', f1, f2, f3, f4⟩ := (c2.list.find (fun e => e.born == stamp) (fun e e' hb => by rw [hb])).2 e hf
  have f1' : es'.find? (fun e => e.born == stamp) = some e' := by rw [← Array.find?_toList]; exact f1
  refine ⟨_, ?_, tuple2_vr f3 f4⟩
  simp [Instr.entry, hg, hst, hgm, hc, f1']
end
end Go.Proofs.YtjldcblklbikaaaZev
