/- Several texts in one: Zev16. No condition beyond those that each part names. -/
import Derived.Test.YtjldcblklbikaaaZevX5
import Derived.Deep.RegionHeld3
/- The run that is reckoned is a run. No condition. -/
section
namespace Go.Proofs.YtjldcblklbikaaaZev
open Go.RowKit
set_option linter.unusedVariables false

theorem ev_cs (P : Program) : ∀ (n : Nat) (ro : Nat → Bool) (job : Job) (st : St) (r : X) (st' : St), ev P ro n job st = some (r, st') → ∀ p ∈ st.cs, p ∈ st'.cs := by
  intro n
  induction n with
  | zero => intro ro job st r st' h; cases h
  | succ n ih =>
    intro ro job st r st' h p hp
    cases job with
    | code c =>
      cases c <;> simp only [ev] at h
      case skip => cases h; exact hp
      case label => cases h; exact hp
      case region id ops d =>
        cases d
        · exact ih _ _ _ _ _ h p hp
        · simp only at h
          split at h
          · exact ih _ _ _ _ _ h p hp
          · cases h
      case seq a b =>
        split at h
        · rename_i st1 e; exact ih _ _ _ _ _ h p (ih _ _ _ _ _ e p hp)
        · exact ih _ _ _ _ _ h p hp
      case cond c a b =>
        split at h
        · exact ih _ _ _ _ _ h p (decE_cs _ _ _ p hp)
        · cases h
      case block id b =>
        split at h
        · rename_i k st1 e
          split at h <;> (cases h; exact ih _ _ _ _ _ e p hp)
        · exact ih _ _ _ _ _ h p hp
      case loop b => exact ih _ _ _ _ _ h p hp
      case exit => cases h; exact hp
      case goto => cases h; exact hp
      case ret => cases h; exact hp
      case scope b => exact ih _ _ _ _ _ h p hp
      all_goals cases h
    | loop b =>
      simp only [ev] at h
      split at h
      · rename_i st1 e; exact ih _ _ _ _ _ h p (ih _ _ _ _ _ e p hp)
      · exact ih _ _ _ _ _ h p hp
    | scope b c =>
      simp only [ev] at h
      split at h
      · rename_i l st1 e
        split at h
        · exact ih _ _ _ _ _ h p (ih _ _ _ _ _ e p hp)
        · cases h; exact ih _ _ _ _ _ e p hp
      · exact ih _ _ _ _ _ h p hp
    | ops arr rest =>
      cases rest with
      | nil => simp only [ev] at h; cases h; exact hp
      | cons o rest =>
        simp only [ev] at h
        have hp1 := wantE_cs arr o st p hp
        split at h
        · split at h
          · split at h
            · rename_i v st1 e; exact ih _ _ _ _ _ h p (ih _ _ _ _ _ e p hp1)
            · cases h
          · split at h
            · exact ih _ _ _ _ _ h p hp1
            · cases h
        · exact ih _ _ _ _ _ h p hp1
    | draw n0 arr fr k listed =>
      simp only [ev] at h
      split at h
      · cases h; exact hp
      · cases h
      · rename_i i0 rs k2 _
        split at h
        · split at h
          · rename_i o ho
            have hp1 := wantE_cs arr o st p hp
            split at h
            · split at h
              · split at h
                · exact ih _ _ _ _ _ h p hp1
                · cases h
              · cases h
            · exact ih _ _ _ _ _ h p hp1
          · cases h
        · have hstep : ∀ i, stepD P ro (fun j s => ev P ro n j s) n0 arr fr k2 listed st i = some (r, st') → p ∈ st'.cs := by
            intro i h
            simp only [stepD] at h
            split at h
            · rename_i o ho
              have hp1 := wantE_cs arr o st p hp
              split at h
              · split at h
                · split at h
                  · rename_i v st1 e; exact ih _ _ _ _ _ h p (ih _ _ _ _ _ e p hp1)
                  · cases h
                · split at h
                  · exact ih _ _ _ _ _ h p hp1
                  · cases h
              · exact ih _ _ _ _ _ h p hp1
            · cases h
          split at h
          · exact hstep _ h
          · obtain ⟨q, hq, e⟩ := (allSame_eq h).2.1
            obtain ⟨i, _, e2⟩ := List.mem_map.1 hq
            exact hstep i (e2.trans e)
    | call f args =>
      simp only [ev] at h
      split at h
      · split at h
        · split at h
          · rename_i st1 e
            split at h
            · cases h; exact ih _ _ _ _ _ e p hp
            · cases h
          · rename_i st1 e
            split at h
            · cases h; exact ih _ _ _ _ _ e p hp
            · cases h
          · cases h
        · cases h
      · cases h

def KindOk (r : X) : Job → Prop
  | .code _ => ∀ v, r ≠ .val v
  | .loop _ => ∀ v, r ≠ .val v
  | .scope _ _ => ∀ v, r ≠ .val v
  | .ops _ _ => r = .normal
  | .draw _ _ _ _ _ => r = .normal
  | .call _ _ => ∃ v, r = .val v
theorem ev_kind (P : Program) : ∀ (n : Nat) (ro : Nat → Bool) (job : Job) (st : St) (r : X) (st' : St), ev P ro n job st = some (r, st') → KindOk r job := by
  intro n
  induction n with
  | zero => intro ro job st r st' h; cases h
  | succ n ih =>
    intro ro job st r st' h
    cases job with
    | code c =>
      cases c <;> simp only [ev] at h
      case skip => cases h; exact fun v e => by cases e
      case label => cases h; exact fun v e => by cases e
      case region id ops d =>
        cases d
        · have : r = .normal := ih _ _ _ _ _ h
          exact fun v e => by rw [this] at e; cases e
        · simp only at h
          split at h
          · have : r = .normal := ih _ _ _ _ _ h
            exact fun v e => by rw [this] at e; cases e
          · cases h
      case seq a b =>
        split at h
        · (have := ih _ _ _ _ _ h; exact this)
        · (have := ih _ _ _ _ _ h; exact this)
      case cond c a b =>
        split at h
        · (have := ih _ _ _ _ _ h; exact this)
        · cases h
      case block id b =>
        split at h
        · split at h <;> (cases h; exact fun v e => by cases e)
        · (have := ih _ _ _ _ _ h; exact this)
      case loop b => (have := ih _ _ _ _ _ h; exact this)
      case exit => cases h; exact fun v e => by cases e
      case goto => cases h; exact fun v e => by cases e
      case ret => cases h; exact fun v e => by cases e
      case scope b => (have := ih _ _ _ _ _ h; exact this)
      all_goals cases h
    | loop b =>
      simp only [ev] at h
      split at h
      · (have := ih _ _ _ _ _ h; exact this)
      · exact ih _ (.code b) _ _ _ h
    | scope b c =>
      simp only [ev] at h
      split at h
      · split at h
        · (have := ih _ _ _ _ _ h; exact this)
        · cases h; exact fun v e => by cases e
      · exact ih _ (.code c) _ _ _ h
    | ops arr rest =>
      cases rest with
      | nil => simp only [ev] at h; cases h; rfl
      | cons o rest =>
        simp only [ev] at h
        split at h
        · split at h
          · split at h
            · exact ih _ (.ops arr rest) _ _ _ h
            · cases h
          · split at h
            · exact ih _ (.ops arr rest) _ _ _ h
            · cases h
        · exact ih _ (.ops arr rest) _ _ _ h
    | draw n0 arr fr k listed =>
      simp only [ev] at h
      split at h
      · cases h; rfl
      · cases h
      · rename_i k2
        split at h
        · split at h
          · split at h
            · split at h
              · split at h
                · (have := ih _ _ _ _ _ h; exact this)
                · cases h
              · cases h
            · (have := ih _ _ _ _ _ h; exact this)
          · cases h
        · split at h
          · simp only [stepD] at h
            split at h
            · split at h
              · split at h
                · split at h
                  · (have := ih _ _ _ _ _ h; exact this)
                  · cases h
                · split at h
                  · (have := ih _ _ _ _ _ h; exact this)
                  · cases h
              · (have := ih _ _ _ _ _ h; exact this)
            · cases h
          · exact (allSame_eq h).1
    | call f args =>
      simp only [ev] at h
      split at h
      · split at h
        · split at h
          · split at h
            · cases h; exact ⟨_, rfl⟩
            · cases h
          · split at h
            · cases h; exact ⟨_, rfl⟩
            · cases h
          · cases h
        · cases h
      · cases h

def XQ (r : X) (Q : Exit → Act → World → Prop) (a : Act) (w : World) : Prop :=
  match r with
  | .normal => Q .normal a w
  | .exit id => Q (.exit id) a w
  | .goto l => Q (.goto l) a w
  | .ret => Q .ret a w
  | .val _ => True

/-- a frame is as reckoned -/
def TR (β : Env) (T : List Value) (a : Act) : Prop := LsR β T a.tmps.toList ∧ a.defers = []

def After (w0 : World) (K : Nat → Prop) (ro : Nat → Bool) (β : Env) (st' : St) (r : X) (Q : Exit → Act → World → Prop) : Prop :=
  ∀ a' w' β', Ext β β' → M w0 K ro β' st'.H w' → TR β' st'.T a' → XQ r Q a' w'

/-- what is run where a loop, or a scope, goes on -/
def Within (P : Program) (it : Item) (c : Code) (Q : Exit → Act → World → Prop) (a : Act) (w : World) : Prop :=
  ∀ (b : Frame) (k : List Item) (cs : List Frame), ∃ e a' w', Q e a' w' ∧ Arrives P (lone (b.at a (.code c :: it :: k)) cs w) b k cs e a' w'

def CallR (w0 : World) (K : Nat → Prop) (ro : Nat → Bool) (β : Env) (H' : Heap) (v : Value) (e : Ending) (w' : World) : Prop :=
  ∃ v' β', e = .returned v' ∧ Ext β β' ∧ M w0 K ro β' H' w' ∧ VR β' v v'

def Snd (P : Program) (w0 : World) (K : Nat → Prop) (ro : Nat → Bool) (β : Env) (w : World) (st st' : St) (r : X) : Job → Prop
  | .code c => ∀ a Q, TR β st.T a → After w0 K ro β st' r Q → c.wp P Q a w
  | .loop c => ∀ a Q, TR β st.T a → After w0 K ro β st' r Q → Within P (.inLoop c) c Q a w
  | .scope b c => ∀ a Q, TR β st.T a → After w0 K ro β st' r Q → Within P (.inScope b) c Q a w
  | .ops arr rest => ∀ a Q, TR β st.T a → After w0 K ro β st' r Q → wpList P arr Q rest a w
  | .draw n0 arr fr k listed => Region.noSelect arr = true → fr = freeE arr → Base β w0 K n0 ro →
      ∀ a Q, TR β st.T a → After w0 K ro β st' r Q → wpAnyH P .any arr (NoPanic Q) (SameOld w0 K) k listed a w
  | .call f args => ∀ v, r = .val v → ∀ args' : Array Value, LsR β args args'.toList → Calls P f args' w (CallR w0 K ro β st'.H v)

theorem After.ext {w0 : World} {K : Nat → Prop} {ro : Nat → Bool} {β β' : Env} {st' : St} {r : X} {Q : Exit → Act → World → Prop} (h : After w0 K ro β st' r Q) (k : Ext β β') : After w0 K ro β' st' r Q :=
  fun a' w' β'' e => h a' w' β'' (k.trans e)

theorem wp_loop_within {P : Program} {c : Code} {Q : Exit → Act → World → Prop} {a : Act} {w : World} (h : Within P (.inLoop c) c Q a w) : (Code.loop c).wp P Q a w := by
  intro b k cs
  obtain ⟨e, a', w', hq, harr⟩ := h b k cs
  exact ⟨e, a', w', hq, .of_steps (.one step_loop) harr⟩
theorem wp_scope_within {P : Program} {c : Code} {Q : Exit → Act → World → Prop} {a : Act} {w : World} (h : Within P (.inScope c) c Q a w) : (Code.scope c).wp P Q a w := by
  intro b k cs
  obtain ⟨e, a', w', hq, harr⟩ := h b k cs
  exact ⟨e, a', w', hq, .of_steps (.one step_scope) harr⟩
theorem within_loop {P : Program} {c : Code} {Q : Exit → Act → World → Prop} {a : Act} {w : World} (h : c.wp P (Exit.then (fun a w => Within P (.inLoop c) c Q a w) Q) a w) : Within P (.inLoop c) c Q a w := by
  intro b k cs
  obtain ⟨e, a₁, w₁, hq, harr⟩ := h b (.inLoop c :: k) cs
  cases e with
  | normal =>
    obtain ⟨e₂, a₂, w₂, hq₂, harr₂⟩ := hq b k cs
    exact ⟨e₂, a₂, w₂, hq₂, .of_steps (Steps.trans harr (.one step_inLoop)) harr₂⟩
  | exit id => exact ⟨_, a₁, w₁, hq, .pass (x := .inLoop c) rfl (fun _ _ => .inl (by simp)) harr⟩
  | goto l => exact ⟨_, a₁, w₁, hq, .pass (x := .inLoop c) rfl (fun _ _ => .inl (by simp)) harr⟩
  | ret => exact ⟨_, a₁, w₁, hq, .pass (x := .inLoop c) rfl (fun _ _ => .inl (by simp)) harr⟩
  | panic ch => exact ⟨_, a₁, w₁, hq, .pass (x := .inLoop c) rfl (fun _ _ => .inl (by simp)) harr⟩
  | outgrown => exact ⟨_, a₁, w₁, hq, .pass (x := .inLoop c) rfl (fun _ _ => .inl (by simp)) harr⟩
/-- as Q; by a goto: whatever is said of it -/
def Exit.jumps (J : Nat → Act → World → Prop) (Q : Exit → Act → World → Prop) : Exit → Act → World → Prop
  | .goto l, a, w => J l a w
  | e, a, w => Q e a w
theorem within_scope {P : Program} {body c : Code} {Q : Exit → Act → World → Prop} {a : Act} {w : World}
    (h : c.wp P (Exit.jumps (fun l a w => match findLabel body l with | some rest => Within P (.inScope body) rest Q a w | none => Q (.goto l) a w) Q) a w) : Within P (.inScope body) c Q a w := by
  intro b k cs
  obtain ⟨e, a₁, w₁, hq, harr⟩ := h b (.inScope body :: k) cs
  cases e with
  | normal => exact ⟨.normal, a₁, w₁, hq, Steps.trans harr (.one step_inScope)⟩
  | exit id => exact ⟨.exit id, a₁, w₁, hq, fun k' hk => harr k' (by simp [exitTo, hk])⟩
  | goto l =>
    simp only [Exit.jumps] at hq
    cases hf : findLabel body l with
    | some rest =>
      rw [hf] at hq
      obtain ⟨e₂, a₂, w₂, hq₂, harr₂⟩ := hq b k cs
      exact ⟨e₂, a₂, w₂, hq₂, .of_steps (harr _ (by simp [gotoIn, hf])) harr₂⟩
    | none =>
      rw [hf] at hq
      exact ⟨.goto l, a₁, w₁, hq, fun k' hk => harr k' (by simp [gotoIn, hf, hk])⟩
  | ret => exact ⟨_, a₁, w₁, hq, harr⟩
  | panic ch => exact ⟨_, a₁, w₁, hq, harr⟩
  | outgrown => exact ⟨_, a₁, w₁, hq, harr⟩

theorem ev_snd (P : Program) (hP : NoNum P) (hF : P.follows .mixedOrders = true) : ∀ (n : Nat) (ro : Nat → Bool) (job : Job) (st : St) (r : X) (st' : St), ev P ro n job st = some (r, st') → (∀ p ∈ st'.cs, p.1 = p.2) →
    ∀ (w0 : World) (K : Nat → Prop) (β : Env) (w : World), M w0 K ro β st.H w → Snd P w0 K ro β w st st' r job := by
  intro n
  induction n with
  | zero => intro ro job st r st' h; cases h
  | succ n ih =>
    intro ro job st r st' h hcs w0 K β w hM
    cases job with
    | code c =>
      cases c <;> simp only [ev] at h
      case skip => cases h; exact fun a Q hT hA => wp_skip (hA a w β (Ext.refl β) hM hT)
      case label => cases h; exact fun a Q hT hA => wp_label (hA a w β (Ext.refl β) hM hT)
      case region id ops d =>
        cases d
        · exact fun a Q hT hA => wp_region_list (ih _ _ _ _ _ h hcs w0 K β w hM a Q hT hA)
        · simp only at h
          split at h
          · rename_i hns
            intro a Q hT hA
            refine wp_region_noPanic (wp_region_held (S := SameOld w.drew (Kd β (roE ro st.H.length (popDirty st.hs).1))) hF ?_)
            have hM1 : M w0 K ro β st.H w.drew := hM.drew
            have h1 := ih _ _ _ _ _ h hcs w.drew (Kd β (roE ro st.H.length (popDirty st.hs).1)) β w.drew (hM1.sub _) hns rfl (hM1.base _) a Q hT
              (fun a' w' β' he hM' hT' => hA a' w' β' he (hM1.back hM' he) hT')
            exact h1
          · cases h
      case seq x y =>
        split at h
        · rename_i st1 e
          have h1 := ih _ _ _ _ _ e (fun p hp => hcs p (ev_cs P n _ _ _ _ _ h p hp)) w0 K β w hM
          exact fun a Q hT hA => wp_seq (h1 a _ hT fun a' w' β' he hM' hT' => ih _ _ _ _ _ h hcs w0 K β' w' hM' a' Q hT' (hA.ext he))
        · rename_i hn
          have h1 := ih _ _ _ _ _ h hcs w0 K β w hM
          refine fun a Q hT hA => wp_seq (h1 a _ hT fun a' w' β' he hM' hT' => ?_)
          have := hA a' w' β' he hM' hT'
          cases r with
          | normal => exact absurd h (hn _)
          | exit => exact this
          | goto => exact this
          | ret => exact this
          | val v => exact this
      case cond c x y =>
        split at h
        · rename_i t ht
          have hcs1 := fun p hp => hcs p (ev_cs P n _ _ _ _ _ h p hp)
          intro a Q hT hA
          have hv := opd_vr hT.1 ht
          have hev : a.eval c = .bool t := by generalize a.eval c = u at hv; cases hv; rfl
          obtain ⟨e1, e2, e3⟩ := decE_run hT.1 (i := tmpOf c) (t := t) (fun d hd => by
            cases c <;> simp only [tmpOf, Option.some.injEq, reduceCtorEq] at hd
            subst hd
            rename_i d
            simp only [opd, Option.some.injEq] at ht
            have : st.T[d]? = some (.bool t) := by
              rcases Nat.lt_or_ge d st.T.length with hl | hl
              · rw [List.getElem?_eq_getElem hl]
                simp only [List.getD_eq_getElem?_getD, List.getElem?_eq_getElem hl, Option.getD_some] at ht
                rw [ht]
              · simp only [List.getD_eq_getElem?_getD, List.getElem?_eq_none hl, Option.getD_none, undef] at ht
                cases ht
            exact lsr_bool hT.1 this) hcs1
          refine wp_cond hev ?_
          have h1 := ih _ _ _ _ _ h hcs w0 K β w (by rw [e3]; exact hM) a Q ⟨e2, hT.2⟩ hA
          rw [e1] at h1
          exact h1
        · cases h
      case block id b =>
        split at h
        · rename_i k st1 e
          have hcs1 : ∀ p ∈ st1.cs, p.1 = p.2 := by split at h <;> (cases h; exact hcs)
          have h1 := ih _ _ _ _ _ e hcs1 w0 K β w hM
          refine fun a Q hT hA => wp_block (h1 a _ hT fun a' w' β' he hM' hT' => ?_)
          split at h
          · rename_i hk
            cases h
            simp only [XQ, Exit.inBlock, hk, if_true]
            exact hA a' w' β' he hM' hT'
          · rename_i hk
            cases h
            simp only [XQ, Exit.inBlock, hk, if_false]
            exact hA a' w' β' he hM' hT'
        · rename_i hn
          have h1 := ih _ _ _ _ _ h hcs w0 K β w hM
          refine fun a Q hT hA => wp_block (h1 a _ hT fun a' w' β' he hM' hT' => ?_)
          have := hA a' w' β' he hM' hT'
          cases r with
          | normal => exact this
          | exit k => exact absurd h (hn _ _)
          | goto => exact this
          | ret => exact this
          | val v => exact this
      case loop b => exact fun a Q hT hA => wp_loop_within (ih _ _ _ _ _ h hcs w0 K β w hM a Q hT hA)
      case exit => cases h; exact fun a Q hT hA => wp_exit (hA a w β (Ext.refl β) hM hT)
      case goto => cases h; exact fun a Q hT hA => wp_goto (hA a w β (Ext.refl β) hM hT)
      case ret => cases h; exact fun a Q hT hA => wp_ret (hA a w β (Ext.refl β) hM hT)
      case scope b => exact fun a Q hT hA => wp_scope_within (ih _ _ _ _ _ h hcs w0 K β w hM a Q hT hA)
      all_goals cases h
    | loop b =>
      simp only [ev] at h
      split at h
      · rename_i st1 e
        have h1 := ih _ _ _ _ _ e (fun p hp => hcs p (ev_cs P n _ _ _ _ _ h p hp)) w0 K β w hM
        exact fun a Q hT hA => within_loop (h1 a _ hT fun a' w' β' he hM' hT' => ih _ _ _ _ _ h hcs w0 K β' w' hM' a' Q hT' (hA.ext he))
      · rename_i hn
        have h1 := ih _ (.code b) _ _ _ h hcs w0 K β w hM
        refine fun a Q hT hA => within_loop (h1 a _ hT fun a' w' β' he hM' hT' => ?_)
        have := hA a' w' β' he hM' hT'
        cases r with
        | normal => exact absurd h (hn _)
        | exit => exact this
        | goto => exact this
        | ret => exact this
        | val v => exact this
    | scope b c =>
      simp only [ev] at h
      split at h
      · rename_i l st1 e
        have hcs1 : ∀ p ∈ st1.cs, p.1 = p.2 := by
          split at h
          · exact fun p hp => hcs p (ev_cs P n _ _ _ _ _ h p hp)
          · cases h; exact hcs
        have h1 := ih _ _ _ _ _ e hcs1 w0 K β w hM
        refine fun a Q hT hA => within_scope (h1 a _ hT fun a' w' β' he hM' hT' => ?_)
        simp only [XQ, Exit.jumps]
        split at h
        · rename_i rest hf
          rw [hf]
          exact ih _ _ _ _ _ h hcs w0 K β' w' hM' a' Q hT' (hA.ext he)
        · rename_i hf
          rw [hf]
          cases h
          exact hA a' w' β' he hM' hT'
      · rename_i hn
        have h1 := ih _ (.code c) _ _ _ h hcs w0 K β w hM
        refine fun a Q hT hA => within_scope (h1 a _ hT fun a' w' β' he hM' hT' => ?_)
        have := hA a' w' β' he hM' hT'
        cases r with
        | normal => exact this
        | exit => exact this
        | goto => exact absurd h (hn _ _)
        | ret => exact this
        | val v => exact this
    | ops arr rest =>
      cases rest with
      | nil => simp only [ev] at h; cases h; exact fun a Q hT hA => hA a w β (Ext.refl β) hM hT
      | cons o rest =>
        simp only [ev] at h
        intro a Q hT hA
        have hcs1 : ∀ p ∈ (wantE arr o st).2.cs, p.1 = p.2 := by
          split at h
          · split at h
            · split at h
              · rename_i v st1 e; exact fun p hp => hcs p (ev_cs P n _ _ _ _ _ h p (ev_cs P n _ _ _ _ _ e p hp))
              · cases h
            · split at h
              · exact fun p hp => hcs p (ev_cs P n _ _ _ _ _ h p hp)
              · cases h
          · exact fun p hp => hcs p (ev_cs P n _ _ _ _ _ h p hp)
        obtain ⟨q1, q2, q3⟩ := wantE_run hT.1 hcs1
        have hM1 : M w0 K ro β (wantE arr o st).2.H w := by rw [q3]; exact hM
        unfold wpList
        rw [q1]
        split at h
        · rename_i hw
          rw [if_pos hw]
          refine .inl ?_
          unfold Oper.wp
          split at h
          · rename_i f args ht
            obtain ⟨args', r1, r2⟩ := targetE_run hP q2 ht
            rw [r2 w, Oper.upon_enter]
            split at h
            · rename_i v st1 e
              have hcall := ih _ _ _ _ _ e (fun p hp => hcs p (ev_cs P n _ _ _ _ _ h p hp)) w0 K β w hM1 v rfl args' r1
              refine hcall.mono fun en w' hR => ?_
              obtain ⟨v', β', rfl, s1, s2, s3⟩ := hR
              exact ih _ _ _ _ _ h hcs w0 K β' w' s2 _ Q ⟨putT_lsr (q2.mono s1) o.dst s3 a rfl, (put_defers _ _ _).trans hT.2⟩ (hA.ext s1)
            · cases h
          · split at h
            · rename_i v H' e
              obtain ⟨nx, v', w1, β', s1, s2, s3, s4, s5⟩ := opE_run hM1 q2 e
              have hnext := ih _ _ _ _ _ h hcs w0 K β' w1 s4 (a.put o.dst v') Q ⟨putT_lsr (q2.mono s3) o.dst s5 a rfl, (put_defers _ _ _).trans hT.2⟩ (hA.ext s3)
              rw [s1]
              rcases s2 with rfl | ⟨rfl, rfl⟩
              · rw [Oper.upon_value]; exact hnext
              · rw [Oper.upon_skip]; exact hnext
            · cases h
        · rename_i hw
          rw [if_neg hw]
          exact ih _ _ _ _ _ h hcs w0 K β w hM1 (a.put o.dst undef) Q ⟨putT_lsr q2 o.dst (undef_vr β) a rfl, (put_defers _ _ _).trans hT.2⟩ hA
    | draw n0 arr fr k listed =>
      intro hns hfr hbase a Q hT hA
      simp only [ev] at h
      split at h
      · rename_i hr
        cases h
        exact wpAnyH_done hr (NoPanic.normal (hA a w β (Ext.refl β) hM hT)) _
      · cases h
      · rename_i i0 rs k hr
        split at h
        · rename_i i hi
          have hmem := List.mem_of_find?_eq_some hi
          have htk := List.find?_some hi
          simp only [takeE, Bool.and_eq_true] at htk
          split at h
          · rename_i o ho
            have hcs1 : ∀ p ∈ (wantE arr o st).2.cs, p.1 = p.2 := by
              split at h
              · split at h
                · split at h
                  · exact fun p hp => hcs p (ev_cs P n _ _ _ _ _ h p hp)
                  · cases h
                · cases h
              · exact fun p hp => hcs p (ev_cs P n _ _ _ _ _ h p hp)
            obtain ⟨q1, q2, q3⟩ := wantE_run hT.1 hcs1
            have hM1 : M w0 K ro β (wantE arr o st).2.H w := by rw [q3]; exact hM
            have hready : (Region.ready .any arr listed).contains i = true := by rw [hr]; simpa using hmem
            split at h
            · rename_i hw
              split at h
              · rename_i hq
                split at h
                · rename_i v H' e
                  obtain ⟨rfl, v', s1, s2⟩ := quiet_run hM1 hbase q2 hq e
                  refine wpAnyH_take (i := i) (v := v') ho hns (freeE_spec (by rw [← hfr]; exact htk.1) hready) hready (fun _ _ _ h => h) (.inl ⟨by rw [q1]; exact hw, s2⟩) hM.same ?_
                  exact ih _ _ _ _ _ h hcs w0 K β w hM1 hns hfr hbase _ Q ⟨putT_lsr q2 o.dst s1 a rfl, (put_defers _ _ _).trans hT.2⟩ hA
                · cases h
              · cases h
            · rename_i hw
              refine wpAnyH_take (i := i) (v := undef) ho hns (freeE_spec (by rw [← hfr]; exact htk.1) hready) hready (fun _ _ _ h => h) (.inr ⟨by rw [q1]; simpa using hw, rfl⟩) hM.same ?_
              exact ih _ _ _ _ _ h hcs w0 K β w hM1 hns hfr hbase _ Q ⟨putT_lsr q2 o.dst (undef_vr β) a rfl, (put_defers _ _ _).trans hT.2⟩ hA
          · cases h
        · have hstep : ∀ (i : Nat) (st' : St), stepD P ro (fun j s => ev P ro n j s) n0 arr fr k listed st i = some (r, st') → (∀ p ∈ st'.cs, p.1 = p.2) → After w0 K ro β st' r Q →
              wpOp P arr (NoPanic Q) i (fun a' w' => SameOld w0 K w' ∧ wpAnyH P .any arr (NoPanic Q) (SameOld w0 K) k (listed.setIfInBounds i true) a' w') a w := by
            intro i st' h hcs hA
            simp only [stepD] at h
            split at h
            · rename_i o ho
              have hcs1 : ∀ p ∈ (wantE arr o st).2.cs, p.1 = p.2 := by
                split at h
                · split at h
                  · split at h
                    · rename_i v st1 e; exact fun p hp => hcs p (ev_cs P n _ _ _ _ _ h p (ev_cs P n _ _ _ _ _ e p hp))
                    · cases h
                  · split at h
                    · exact fun p hp => hcs p (ev_cs P n _ _ _ _ _ h p hp)
                    · cases h
                · exact fun p hp => hcs p (ev_cs P n _ _ _ _ _ h p hp)
              obtain ⟨q1, q2, q3⟩ := wantE_run hT.1 hcs1
              have hM1 : M w0 K ro β (wantE arr o st).2.H w := by rw [q3]; exact hM
              unfold wpOp
              rw [ho]
              simp only
              rw [q1]
              split at h
              · rename_i hw
                rw [if_pos hw]
                refine .inl ?_
                unfold Oper.wp
                split at h
                · rename_i f args ht
                  obtain ⟨args', r1, r2⟩ := targetE_run hP q2 ht
                  rw [r2 w, Oper.upon_enter]
                  split at h
                  · rename_i v st1 e
                    have hcall := ih _ _ _ _ _ e (fun p hp => hcs p (ev_cs P n _ _ _ _ _ h p hp)) w0 K β w hM1 v rfl args' r1
                    refine hcall.mono fun en w' hR => ?_
                    obtain ⟨v', β', rfl, s1, s2, s3⟩ := hR
                    exact ⟨s2.same, ih _ _ _ _ _ h hcs w0 K β' w' s2 hns hfr (hbase.ext s1 s1.len) _ Q ⟨putT_lsr (q2.mono s1) o.dst s3 a rfl, (put_defers _ _ _).trans hT.2⟩ (hA.ext s1)⟩
                  · cases h
                · split at h
                  · rename_i v H' e
                    obtain ⟨nx, v', w1, β', s1, s2, s3, s4, s5⟩ := opE_run hM1 q2 e
                    have hnext := ih _ _ _ _ _ h hcs w0 K β' w1 s4 hns hfr (hbase.ext s3 s3.len) (a.put o.dst v') Q ⟨putT_lsr (q2.mono s3) o.dst s5 a rfl, (put_defers _ _ _).trans hT.2⟩ (hA.ext s3)
                    rw [s1]
                    rcases s2 with rfl | ⟨rfl, rfl⟩
                    · rw [Oper.upon_value]; exact ⟨s4.same, hnext⟩
                    · rw [Oper.upon_skip]; exact ⟨s4.same, hnext⟩
                  · cases h
              · rename_i hw
                rw [if_neg hw]
                exact ⟨hM.same, ih _ _ _ _ _ h hcs w0 K β w hM1 hns hfr hbase (a.put o.dst undef) Q ⟨putT_lsr q2 o.dst (undef_vr β) a rfl, (put_defers _ _ _).trans hT.2⟩ hA⟩
            · cases h
          split at h
          · refine wpAnyH_all (rs := [i0]) hr (by simp) fun i hi => ?_
            simp only [List.mem_singleton] at hi
            subst hi
            exact hstep _ _ h hcs hA
          · refine wpAnyH_all hr (by simp) fun i hi => ?_
            obtain ⟨t, e, hl⟩ := (allSame_eq h).2.2 _ (List.mem_map.2 ⟨i, hi, rfl⟩)
            rcases hl with rfl | hl
            · exact hstep i _ e hcs hA
            · obtain ⟨l1, l2⟩ := likeSt_run hl
              refine hstep i _ e (by rw [← l1]; exact hcs) fun a' w' β' he hM' hT' => ?_
              obtain ⟨β3, m1, m2, m3⟩ := l2 hM' (Nat.le_of_eq hM.len) he hT'.1
              exact hA a' w' β3 m1 m2 ⟨m3, hT'.2⟩
    | call f args =>
      intro v hv args' hargs
      simp only [ev] at h
      split at h
      · rename_i fn hf
        split at h
        · rename_i c hb
          have hlen : args.length = args'.size := by simpa using hargs.1
          have hT0 : TR β (args ++ List.replicate (fn.ntmps - args.length) undef) { tmps := args' ++ Array.replicate (fn.ntmps - args'.size) undef, defers := [] } := by
            refine ⟨?_, rfl⟩
            rw [hlen]
            have : LsR β (List.replicate (fn.ntmps - args'.size) undef) (List.replicate (fn.ntmps - args'.size) undef) := ⟨rfl, fun i x x' p q => by
              rw [p] at q; cases q
              have := List.eq_of_mem_replicate (List.mem_of_getElem? p)
              rw [this]; exact undef_vr β⟩
            simpa using hargs.append this
          have fin : ∀ st1 r1, ev P ro n (.code c) { st with T := args ++ List.replicate (fn.ntmps - args.length) undef } = some (r1, st1) → (r1 = .normal ∨ r1 = .ret) →
              (match retE P fn st1.H st1.T with | some v => some (X.val v, st1) | none => none) = some (r, st') → Calls P f args' w (CallR w0 K ro β st'.H v) := by
            intro st1 r1 e hr h2
            split at h2
            · rename_i v2 hret
              cases h2
              cases hv
              refine calls_of_wp hf hb (ih _ _ _ _ _ e hcs w0 K β w hM _ _ hT0 fun a' w' β' he hM' hT' => ?_)
              obtain ⟨v', z1, z2⟩ := retE_run (P := P) hM' hT'.1 hret
              rcases hr with rfl | rfl
              · exact ⟨hT'.2, v', z1, v', β', rfl, he, hM', z2⟩
              · exact ⟨hT'.2, v', z1, v', β', rfl, he, hM', z2⟩
            · cases h2
          split at h
          · rename_i st1 e; exact fin st1 _ e (.inl rfl) h
          · rename_i st1 e; exact fin st1 _ e (.inr rfl) h
          · cases h
        · cases h
      · cases h

/-- a call that takes nothing, reckoned in a world of no labels, is that call in each world: it makes new blocks alone -/
theorem ev_closed (P : Program) (hP : NoNum P) (hF : P.follows .mixedOrders = true) {n : Nat} {f : FuncId} {v : Value} {st' : St} (h : ev P (fun _ => false) n (.call f []) ⟨[], [], [], []⟩ = some (.val v, st')) (hv : still v = true) (hc : st'.cs = []) (w : World) :
    Calls P f #[] w fun e w' => e = .returned v ∧ Below w.heap.size w w' := by
  have hM : M w (fun _ => False) (fun _ => false) [] [] w := ⟨rfl, fun l o hl => by simp at hl, fun l p hl => by simp at hl, fun l l' p p' hl => by simp at hl, fun l p hl => by simp at hl, rfl, rfl, rfl, Nat.le_refl _, fun _ _ _ => rfl⟩
  have := ev_snd P hP hF n _ _ _ _ _ h (by rw [hc]; simp) w (fun _ => False) [] w hM v rfl #[] (LsR.nil _)
  refine this.mono fun e w' hR => ?_
  obtain ⟨v', β', rfl, _, h2, h3⟩ := hR
  exact ⟨by rw [still_eq hv h3], h2.os, h2.tape, h2.output, h2.size, fun k hk => h2.block k hk (fun c => c)⟩
end Go.Proofs.YtjldcblklbikaaaZev
end
