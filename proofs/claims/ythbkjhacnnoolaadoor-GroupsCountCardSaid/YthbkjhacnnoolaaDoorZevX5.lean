/- Several texts in one: ZevK. No condition beyond those that each part names. -/
import Derived.Test.YthbkjhacnnoolaaDoorZevX4
/- What a label that is only read holds stays. No condition. -/
section
namespace Go.Proofs.YthbkjhacnnoolaaDoorZev
open Go.RowKit
set_option linter.unusedVariables false
set_option linter.unusedSectionVars false
variable [Sym] [Kin] [Glob]

def SameCode (r q : Loop) : Prop := r.params = q.params ∧ r.assign = q.assign ∧ r.body = q.body
structure Kp (ro : Nat → Bool) (H H' : Heap) : Prop where
  len : H.length ≤ H'.length
  same : ∀ l, l < H.length → ro l = true → H'[l]? = H[l]?
  loop : ∀ l r', l < H.length → H'[l]? = some (some (.loop r')) → ∃ r, H[l]? = some (some (.loop r)) ∧ SameCode r' r
section
variable {P : Program} {ro : Nat → Bool} {H H' : Heap}
theorem Kp.refl (ro : Nat → Bool) (H : Heap) : Kp ro H H := ⟨Nat.le_refl _, fun _ _ _ => rfl, fun l r _ h => ⟨r, h, rfl, rfl, rfl⟩⟩
theorem Kp.trans {A B C : Heap} (h : Kp ro A B) (k : Kp ro B C) : Kp ro A C := ⟨Nat.le_trans h.len k.len, fun l hl hr => (k.same l (Nat.lt_of_lt_of_le hl h.len) hr).trans (h.same l hl hr), fun l r hl hr => by
  obtain ⟨q, h1, h2, h3, h4⟩ := k.loop l r (Nat.lt_of_lt_of_le hl h.len) hr
  obtain ⟨q2, k1, k2, k3, k4⟩ := h.loop l q hl h1
  exact ⟨q2, k1, h2.trans k2, h3.trans k3, h4.trans k4⟩⟩
theorem Kp.app (ro : Nat → Bool) (H L : Heap) : Kp ro H (H ++ L) := ⟨by simp, fun l hl _ => List.getElem?_append_left hl, fun l r hl hr => ⟨r, by rw [List.getElem?_append_left hl] at hr; exact hr, rfl, rfl, rfl⟩⟩
theorem Kp.set (H : Heap) {k : Nat} (o : Option Obj) (hk : ro k = false) (hn : ∀ r, o ≠ some (.loop r) := by (intro r h; cases h)) : Kp ro H (H.set k o) := ⟨by simp, fun l hl hr => (by
  rw [List.getElem?_set_ne]
  intro e; rw [e, hr] at hk; cases hk), fun l r hl hr => by
  by_cases e : k = l
  · subst e
    rw [List.getElem?_set_self hl] at hr
    exact absurd (Option.some.inj hr) (hn r)
  · rw [List.getElem?_set_ne e] at hr; exact ⟨r, hr, rfl, rfl, rfl⟩⟩
theorem Kp.setLoop (H : Heap) {k : Nat} {r r' : Loop} (hk : ro k = false) (h0 : H[k]? = some (some (.loop r))) (hc : SameCode r' r) : Kp ro H (H.set k (some (.loop r'))) := ⟨by simp, fun l hl hr => (by
  rw [List.getElem?_set_ne]
  intro e; rw [e, hr] at hk; cases hk), fun l q hl hr => by
  by_cases e : k = l
  · subst e
    rw [List.getElem?_set_self hl] at hr
    cases hr
    exact ⟨r, h0, hc⟩
  · rw [List.getElem?_set_ne e] at hr; exact ⟨q, hr, rfl, rfl, rfl⟩⟩
theorem Kp.setApp (H : Heap) {k : Nat} (o : Option Obj) (L : Heap) (hk : ro k = false) (hn : ∀ r, o ≠ some (.loop r) := by (intro r h; cases h)) : Kp ro H (H.set k o ++ L) := (Kp.set H o hk hn).trans (Kp.app ro _ _)
theorem Kp.sub {r2 : Nat → Bool} (h : Kp r2 H H') (hs : ∀ l, l < H.length → ro l = true → r2 l = true) : Kp ro H H' := ⟨h.len, fun l hl hr => h.same l hl (hs l hl hr), h.loop⟩
theorem loopAt_some {l : Nat} {r : Loop} (h : loopAt H l = some r) : H[l]? = some (some (.loop r)) := by
  unfold loopAt at h
  split at h
  · rename_i r' e; cases h; exact e
  · cases h

theorem storeE_kp {t : TypeId} {a x : Value} (h : storeE P ro H t a x = some H') : Kp ro H H' := by
  unfold storeE at h
  split at h
  · split at h
    · split at h
      · rename_i hc; cases h; exact Kp.set _ _ hc.1
      · cases h
    · cases h
  · cases h
theorem appE_kp {ts : Array TypeId} {s x v : Value} (h : appE P ro H ts s x = some (v, H')) : Kp ro H H' := by
  unfold appE at h
  repeat' split at h
  all_goals first
    | (cases h; done)
    | (cases h; exact Kp.refl _ _)
    | (cases h; exact Kp.app _ _ _)
    | (cases h; exact Kp.setApp _ _ _ (by assumption))
theorem copyE_kp {ts : Array TypeId} {s x v : Value} (h : copyE P ro H ts s x = some (v, H')) : Kp ro H H' := by
  unfold copyE at h
  repeat' split at h
  all_goals first
    | (cases h; done)
    | (cases h; exact Kp.refl _ _)
    | (rename_i hc; cases h; exact Kp.set _ _ hc.1)
theorem clearE_kp {ts : Array TypeId} {x : Value} (h : clearE P ro H ts x = some H') : Kp ro H H' := by
  unfold clearE at h
  repeat' split at h
  all_goals first
    | (cases h; done)
    | (cases h; exact Kp.refl _ _)
    | (rename_i hc; cases h; exact Kp.set _ _ hc.1)
theorem convE_kp {s d : TypeId} {x v : Value} (h : convE P ro H s d x = some (v, H')) : Kp ro H H' := by
  unfold convE at h
  repeat' split at h
  all_goals first
    | (cases h; done)
    | (cases h; exact Kp.refl _ _)
    | (cases h; exact Kp.app _ _ _)
    | (cases h; exact Kp.set _ _ (by assumption))
theorem makeMapE_kp {t : TypeId} {r : Option Value} {v : Value} (h : makeMapE P H t r = some (v, H')) : Kp ro H H' := by
  unfold makeMapE at h
  repeat' split at h
  all_goals first
    | (cases h; done)
    | (cases h; exact Kp.app _ _ _)
theorem makeSliceE_kp {t : TypeId} {l c v : Value} (h : makeSliceE P H t l c = some (v, H')) : Kp ro H H' := by
  unfold makeSliceE at h
  repeat' split at h
  all_goals first
    | (cases h; done)
    | (cases h; exact Kp.app _ _ _)
theorem buildSliceE_kp {t : TypeId} {n : Nat} {ps : List (Nat × Value)} {v : Value} (h : buildSliceE P H t n ps = some (v, H')) : Kp ro H H' := by
  unfold buildSliceE at h
  repeat' split at h
  all_goals first
    | (cases h; done)
    | (cases h; exact Kp.app _ _ _)
theorem rangeE_kp {t : TypeId} {x v : Value} (h : rangeE P H t x = some (v, H')) : Kp ro H H' := by
  unfold rangeE at h
  repeat' split at h
  all_goals first
    | (cases h; done)
    | (cases h; exact Kp.app _ _ _)
theorem nextE_kp {it v : Value} {s : Bool} (h : nextE ro H it s = some (v, H')) : Kp ro H H' := by
  unfold nextE at h
  repeat' split at h
  all_goals first
    | (cases h; done)
    | (cases h; exact Kp.refl _ _)
    | (rename_i hc; cases h; exact Kp.set _ _ hc.2)
    | (rename_i hc; cases h; exact Kp.set _ _ (by simpa using hc))
theorem entStoreE_kp {m s v : Value} (h : entStoreE ro H m s v = some H') : Kp ro H H' := by
  unfold entStoreE at h
  repeat' split at h
  all_goals first
    | (cases h; done)
    | (cases h; exact Kp.set _ _ (by assumption))
theorem updE_kp {t : TypeId} {m k v : Value} (h : updE P ro H t m k v = some H') : Kp ro H H' := by
  unfold updE at h
  repeat' split at h
  all_goals first
    | (cases h; done)
    | (cases h; exact Kp.set _ _ (by assumption))
theorem updS_kp {t : TypeId} {m k v : Value} (h : updS P ro H t m k v = some H') : Kp ro H H' := by
  unfold updS at h
  repeat' split at h
  all_goals first
    | (cases h; done)
    | (cases h; exact Kp.set _ _ (by assumption))
theorem mapEntE_kp {t : TypeId} {m k v : Value} (h : mapEntE P ro H t m k = some (v, H')) : Kp ro H H' := by
  unfold mapEntE at h
  repeat' split at h
  all_goals first
    | (cases h; done)
    | (cases h; exact Kp.set _ _ (by assumption))
theorem mapEntS_kp {t : TypeId} {m k v : Value} (h : mapEntS P ro H t m k = some (v, H')) : Kp ro H H' := by
  unfold mapEntS at h
  repeat' split at h
  all_goals first
    | (cases h; done)
    | (cases h; exact Kp.set _ _ (by assumption))
theorem delE_kp {ts : Array TypeId} {m k : Value} (h : delE P ro H ts m k = some H') : Kp ro H H' := by
  unfold delE at h
  repeat' split at h
  all_goals first
    | (cases h; done)
    | (cases h; exact Kp.refl _ _)
    | (cases h; exact Kp.set _ _ (by assumption))
theorem delS_kp {ts : Array TypeId} {m k : Value} (h : delS P ro H ts m k = some H') : Kp ro H H' := by
  unfold delS at h
  repeat' split at h
  all_goals first
    | (cases h; done)
    | (cases h; exact Kp.refl _ _)
    | (cases h; exact Kp.set _ _ (by assumption))
theorem keep_kp {o : Option Value} {v : Value} (h : keep H o = some (v, H')) : Kp ro H H' := by
  obtain ⟨_, rfl⟩ := keep_some h; exact Kp.refl _ _
theorem opE_kp {T : List Value} {o : Oper} {v : Value} (h : opE P ro T H o = some (v, H')) : Kp ro H H' := by
  unfold opE at h
  repeat' split at h
  all_goals first
    | (cases h; done)
    | exact keep_kp h
    | (cases h; exact Kp.refl _ _)
    | (cases h; exact Kp.app _ _ _)
    | exact buildSliceE_kp h
    | exact convE_kp h
    | exact makeMapE_kp h
    | exact makeSliceE_kp h
    | exact rangeE_kp h
    | exact nextE_kp h
    | exact appE_kp h
    | exact copyE_kp h
    | exact storeE_kp (done_some h).1
    | exact entStoreE_kp (done_some h).1
    | (rcases orE_some (done_some h).1 with e | e; exact updE_kp e; exact updS_kp e)
    | (rcases orE_some h with e | e; exact mapEntE_kp e; exact mapEntS_kp e)
    | (rename_i e; cases h; exact clearE_kp e)
    | (rename_i e; cases h; rcases orE_some e with e | e; exact delE_kp e; exact delS_kp e)
theorem atomE_kp {l : List Value} {v : Value} (h : atomE ro H l = some (v, H')) : Kp ro H H' := by
  unfold atomE at h
  repeat' split at h
  all_goals first
    | (cases h; done)
    | (cases h; exact Kp.set _ _ (by assumption))
theorem opX_kp {xf : FuncId → Option Outs} {T : List Value} {o : Oper} {v : Value} (h : opX P xf ro T H o = some (v, H')) : Kp ro H H' := by
  rcases orE_some h with h | h
  · exact opE_kp h
  rcases orE_some h with h | h
  case inr =>
    rcases orE_some h with h | h
    case inr =>
      unfold rowE at h
      repeat' split at h
      all_goals first
        | (cases h; done)
        | (cases h; exact Kp.refl _ _)
    unfold asrtE at h
    repeat' split at h
    all_goals first
      | (cases h; done)
      | (cases h; exact Kp.refl _ _)
  · unfold extE at h
    repeat' split at h
    all_goals first
      | (cases h; done)
      | skip
    rename_i k _
    cases k with
    | add64 => exact atomE_kp h
    | countStr =>
      simp only [Outs.run, cntE] at h
      split at h
      · cases h; exact Kp.refl _ _
      · cases h
    | idxStr =>
      simp only [Outs.run, idxE] at h
      split at h
      · cases h; exact Kp.refl _ _
      · cases h
theorem marksE_kp : ∀ (ds : List Nat) (H H' : Heap), marksE ro H ds = some H' → Kp ro H H' := by
  intro ds
  induction ds with
  | nil => intro H H' h; cases h; exact Kp.refl _ _
  | cons d ds ih =>
    intro H H' h
    simp only [marksE] at h
    split at h
    · split at h
      · rename_i hr; exact (Kp.set H _ hr).trans (ih _ _ h)
      · cases h
    · cases h
end

def HookKp (hk : Hook) : Prop := ∀ ro f args H n v H' obs, hk ro f args H n = some (v, H', obs) → Kp ro H H'
theorem decE_H (i : Option Tmp) (t : Bool) (st : St) : (decE i t st).2.H = st.H := by unfold decE; split <;> rfl
theorem decS_H (i : Nat) (d : Option Tmp) (st : St) : (decS i d st).2.H = st.H := by unfold decS; split <;> rfl
theorem wantE_H (arr : Array Oper) (o : Oper) (st : St) : (wantE arr o st).2.H = st.H := by
  unfold wantE
  split
  · rfl
  · split
    · exact decE_H _ _ _
    · split
      · exact decS_H _ _ _
      · rfl
      · rfl
theorem symS_H {st st1 : St} {o : Oper} (h : symS st o = some st1) : st1.H = st.H := by
  unfold symS at h
  rcases orE_some h with h | h
  · unfold symL at h
    repeat' split at h
    all_goals first
      | (cases h; done)
      | (cases h; rfl)
  split at h
  · split at h
    · cases h; rfl
    · cases h
  · cases h
theorem finE_kp {C : Cfg} {ro : Nat → Bool} {fn : Func} {ds : List Nat} {st : St} {r : X} {st' : St} (h : finE C ro fn ds st = some (r, st')) : Kp ro st.H st'.H := by
  unfold finE at h
  split at h
  · rename_i H2 hm
    split at h
    · cases h; exact marksE_kp _ _ _ hm
    · cases h
  · cases h
theorem allSame_one {ro : Nat → Bool} {n0 n1 m0 : Nat} {l : List (Option (X × St))} {r : X} {s : St} (h : allSame ro n0 n1 m0 l = some (r, s)) : some (r, s) ∈ l := by
  unfold allSame at h
  split at h
  · split at h
    · cases h; simp
    · cases h
  · cases h
theorem ev_kp (C : Cfg) (hK : HookKp C.hk) : ∀ (n : Nat) (ro : Nat → Bool) (rd : Bool) (job : Job) (st : St) (r : X) (st' : St), ev C ro rd n job st = some (r, st') → Kp ro st.H st'.H := by
  intro n
  induction n with
  | zero => intro ro rd job st r st' h; cases rd <;> cases h
  | succ n ih =>
    intro ro rd job st r st' h
    cases job with
    | code c =>
      cases c <;> simp only [ev] at h
      case skip => cases h; exact Kp.refl _ _
      case label => cases h; exact Kp.refl _ _
      case region id ops d =>
        cases d
        · exact (have q := ih _ _ _ _ _ _ h; q)
        · simp only at h
          split at h
          · exact (have q := ih _ _ _ _ _ _ h; q).sub fun l _ hr => by simp [roE, hr]
          · cases h
      case seq a b =>
        split at h
        · rename_i st1 e; exact (have q := ih _ _ _ _ _ _ e; q).trans (have q := ih _ _ _ _ _ _ h; q)
        · exact (have q := ih _ _ _ _ _ _ h; q)
      case cond c a b =>
        split at h
        · have q := ih _ _ _ _ _ _ h; rw [decE_H] at q; exact q
        · have q := ih _ _ _ _ _ _ h; rw [decS_H] at q; exact q
        · cases h
      case block id b =>
        split at h
        · rename_i k st1 e
          split at h <;> (cases h; exact ih _ _ _ _ _ _ e)
        · exact (have q := ih _ _ _ _ _ _ h; q)
      case loop b => exact (have q := ih _ _ _ _ _ _ h; q)
      case exit => cases h; exact Kp.refl _ _
      case goto => cases h; exact Kp.refl _ _
      case ret => cases h; exact Kp.refl _ _
      case scope b => exact (have q := ih _ _ _ _ _ _ h; q)
      case rangeFunc f ps a b =>
        split at h
        · cases h
        split at h
        case h_2 => cases h
        split at h
        case isFalse => cases h
        split at h
        case h_2 => cases h
        rename_i v st1 e
        have q1 : Kp ro (loopH st.H st.T ps a b) st1.H := ih _ _ _ _ _ _ e
        have q0 : Kp ro st.H (loopH st.H st.T ps a b) := (Kp.app ro _ _).trans (Kp.app ro _ _)
        split at h
        case h_2 => cases h
        rename_i lr hlr
        split at h
        case isFalse => cases h
        rename_i hst
        split at h
        · cases h; exact (q0.trans q1).trans (Kp.setLoop _ hst.2 (loopAt_some hlr) ⟨rfl, rfl, rfl⟩)
        · have q := ih _ _ _ _ _ _ h
          exact Kp.trans ((q0.trans q1).trans (Kp.setLoop (r' := { lr with state := .exhausted }) st1.H hst.2 (loopAt_some hlr) ⟨rfl, rfl, rfl⟩)) q
      case refuse => cases h
    | loop b =>
      simp only [ev] at h
      split at h
      · rename_i st1 e; exact (have q := ih _ _ _ _ _ _ e; q).trans (have q := ih _ _ _ _ _ _ h; q)
      · exact (have q := ih _ _ _ _ _ _ h; q)
    | scope b c =>
      simp only [ev] at h
      split at h
      · rename_i l st1 e
        split at h
        · exact (have q := ih _ _ _ _ _ _ e; q).trans (have q := ih _ _ _ _ _ _ h; q)
        · cases h; exact (have q := ih _ _ _ _ _ _ e; q)
      · exact (have q := ih _ _ _ _ _ _ h; q)
    | ops arr rest =>
      cases rest with
      | nil => simp only [ev] at h; cases h; exact Kp.refl _ _
      | cons o rest =>
        simp only [ev] at h
        have hp1 := wantE_H arr o st
        rw [← hp1]
        split at h
        · split at h
          · rename_i st2 e2; have q := ih _ _ _ _ _ _ h; rw [symS_H e2] at q; exact q
          · split at h
            · split at h
              · rename_i v st1 e; exact (have q := ih _ _ _ _ _ _ e; q).trans (have q := ih _ _ _ _ _ _ h; q)
              · cases h
            · split at h
              · rename_i v H' e; exact (opX_kp e).trans (have q := ih _ _ _ _ _ _ h; q)
              · cases h
        · exact (have q := ih _ _ _ _ _ _ h; q)
    | draw n0 arr fr k listed =>
      simp only [ev] at h
      split at h
      · cases h; exact Kp.refl _ _
      · cases h
      · rename_i i0 rs k2 _
        split at h
        · split at h
          · rename_i o ho
            have hp1 := wantE_H arr o st
            rw [← hp1]
            split at h
            · split at h
              · rename_i st2 e2; have q := ih _ _ _ _ _ _ h; rw [symS_H e2] at q; exact q
              · split at h
                · split at h
                  · exact (have q := ih _ _ _ _ _ _ h; q)
                  · cases h
                · cases h
            · exact (have q := ih _ _ _ _ _ _ h; q)
          · cases h
        · have hstep : ∀ i, stepD C ro (fun j s => ev C ro rd n j s) n0 arr fr k2 listed st i = some (r, st') → Kp ro st.H st'.H := by
            intro i h
            simp only [stepD] at h
            split at h
            · rename_i o ho
              have hp1 := wantE_H arr o st
              rw [← hp1]
              split at h
              · split at h
                · split at h
                  · rename_i v st1 e; exact (have q := ih _ _ _ _ _ _ e; q).trans (have q := ih _ _ _ _ _ _ h; q)
                  · cases h
                · split at h
                  · rename_i v H' e; exact (opX_kp e).trans (have q := ih _ _ _ _ _ _ h; q)
                  · cases h
              · exact (have q := ih _ _ _ _ _ _ h; q)
            · cases h
          split at h
          · exact hstep _ h
          · obtain ⟨i, _, e2⟩ := List.mem_map.1 (allSame_one h)
            exact hstep i e2
    | call f args =>
      simp only [ev] at h
      split at h
      · rename_i e; cases h; exact hK _ _ _ _ _ _ _ _ e
      split at h
      · split at h
        · split at h
          · rename_i st1 e
            have q := ih _ _ _ _ _ _ e
            exact Kp.trans q (finE_kp h)
          · rename_i st1 e
            have q := ih _ _ _ _ _ _ e
            exact Kp.trans q (finE_kp h)
          · cases h
        · cases h
      · cases h
    | round l args =>
      simp only [ev] at h
      split at h
      case h_2 => cases h
      split at h
      case isFalse => cases h
      rename_i hst
      split at h
      case h_2 => cases h
      rename_i st1 e1
      have q1 := ih _ _ _ _ _ _ e1
      split at h
      case h_2 => cases h
      rename_i lr1 hlr1
      split at h
      case isFalse => cases h
      split at h
      case h_2 => cases h
      rename_i x st2 e2
      have q2 := ih _ _ _ _ _ _ e2
      split at h
      · rename_i lr2 j hlr2 hj
        cases h; exact Kp.trans (Kp.trans (Kp.trans q1 (Kp.setLoop (r' := { lr1 with state := .busy }) st1.H hst.2.2 (loopAt_some hlr1) ⟨rfl, rfl, rfl⟩)) q2) (Kp.setLoop _ hst.2.2 (loopAt_some hlr2) ⟨rfl, rfl, rfl⟩)
      · cases h
end Go.Proofs.YthbkjhacnnoolaaDoorZev
end
