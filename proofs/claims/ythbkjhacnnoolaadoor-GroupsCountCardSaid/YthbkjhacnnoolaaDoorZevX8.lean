/- Several texts in one: ZevG. No condition beyond those that each part names. -/
import Derived.Test.YthbkjhacnnoolaaDoorZevX7
/- The run that is reckoned is a run. No condition. -/
section
namespace Go.Proofs.YthbkjhacnnoolaaDoorZev
open Go.RowKit
set_option linter.unusedVariables false
set_option linter.unusedSectionVars false
variable [Sym] [Kin] [Glob]

theorem finE_cs {C : Cfg} {ro : Nat → Bool} {fn : Func} {ds : List Nat} {st : St} {r : X} {st' : St} (h : finE C ro fn ds st = some (r, st')) : st'.cs = st.cs ∧ st'.ds = ds ∧ ∃ v, r = .val v := by
  unfold finE at h
  split at h
  · split at h
    · cases h; exact ⟨rfl, rfl, _, rfl⟩
    · cases h
  · cases h
theorem ev_sfx (C : Cfg) : ∀ (n : Nat) (ro : Nat → Bool) (rd : Bool) (job : Job) (st : St) (r : X) (st' : St), ev C ro rd n job st = some (r, st') → st.cs <:+ st'.cs := by
  intro n
  induction n with
  | zero => intro ro rd job st r st' h; cases rd <;> cases h
  | succ n ih =>
    intro ro rd job st r st' h
    cases job with
    | code c =>
      cases c <;> simp only [ev] at h
      case skip => cases h; exact List.suffix_refl _
      case label => cases h; exact List.suffix_refl _
      case region id ops d =>
        cases d
        · exact (have q := ih _ _ _ _ _ _ h; q)
        · simp only at h
          split at h
          · exact (have q := ih _ _ _ _ _ _ h; q)
          · cases h
      case seq a b =>
        split at h
        · rename_i st1 e; exact (have q := ih _ _ _ _ _ _ e; q).trans (have q := ih _ _ _ _ _ _ h; q)
        · exact (have q := ih _ _ _ _ _ _ h; q)
      case cond c a b =>
        split at h
        · exact (decE_cs _ _ _).trans (have q := ih _ _ _ _ _ _ h; q)
        · exact (decS_cs _ _ _).trans (have q := ih _ _ _ _ _ _ h; q)
        · cases h
      case block id b =>
        split at h
        · rename_i k st1 e
          split at h <;> (cases h; exact ih _ _ _ _ _ _ e)
        · exact (have q := ih _ _ _ _ _ _ h; q)
      case loop b => exact (have q := ih _ _ _ _ _ _ h; q)
      case exit => cases h; exact List.suffix_refl _
      case goto => cases h; exact List.suffix_refl _
      case ret => cases h; exact List.suffix_refl _
      case scope b => exact (have q := ih _ _ _ _ _ _ h; q)
      case rangeFunc f ps a b =>
        split at h
        · cases h
        split at h
        case h_2 => cases h
        split at h
        case isFalse => cases h
        split at h
        case h_2 => cases h
        rename_i v st1 e
        have q1 := ih _ _ _ _ _ _ e
        split at h
        case h_2 => cases h
        split at h
        case isFalse => cases h
        split at h
        · cases h; exact q1
        · exact q1.trans (have q := ih _ _ _ _ _ _ h; q)
      case refuse => cases h
    | loop b =>
      simp only [ev] at h
      split at h
      · rename_i st1 e; exact (have q := ih _ _ _ _ _ _ e; q).trans (have q := ih _ _ _ _ _ _ h; q)
      · exact (have q := ih _ _ _ _ _ _ h; q)
    | scope b c =>
      simp only [ev] at h
      split at h
      · rename_i l st1 e
        split at h
        · exact (have q := ih _ _ _ _ _ _ e; q).trans (have q := ih _ _ _ _ _ _ h; q)
        · cases h; exact (have q := ih _ _ _ _ _ _ e; q)
      · exact (have q := ih _ _ _ _ _ _ h; q)
    | ops arr rest =>
      cases rest with
      | nil => simp only [ev] at h; cases h; exact List.suffix_refl _
      | cons o rest =>
        simp only [ev] at h
        have hp1 := wantE_cs arr o st
        split at h
        · split at h
          · rename_i st2 e2; exact hp1.trans ((symS_cs e2).trans (have q := ih _ _ _ _ _ _ h; q))
          · split at h
            · split at h
              · rename_i v st1 e; exact hp1.trans ((have q := ih _ _ _ _ _ _ e; q).trans (have q := ih _ _ _ _ _ _ h; q))
              · cases h
            · split at h
              · exact hp1.trans (have q := ih _ _ _ _ _ _ h; q)
              · cases h
        · exact hp1.trans (have q := ih _ _ _ _ _ _ h; q)
    | draw n0 arr fr k listed =>
      simp only [ev] at h
      split at h
      · cases h; exact List.suffix_refl _
      · cases h
      · rename_i i0 rs k2 _
        split at h
        · split at h
          · rename_i o ho
            have hp1 := wantE_cs arr o st
            split at h
            · split at h
              · rename_i st2 e2; exact hp1.trans ((symS_cs e2).trans (have q := ih _ _ _ _ _ _ h; q))
              · split at h
                · split at h
                  · exact hp1.trans (have q := ih _ _ _ _ _ _ h; q)
                  · cases h
                · cases h
            · exact hp1.trans (have q := ih _ _ _ _ _ _ h; q)
          · cases h
        · have hstep : ∀ i, stepD C ro (fun j s => ev C ro rd n j s) n0 arr fr k2 listed st i = some (r, st') → st.cs <:+ st'.cs := by
            intro i h
            simp only [stepD] at h
            split at h
            · rename_i o ho
              have hp1 := wantE_cs arr o st
              split at h
              · split at h
                · split at h
                  · rename_i v st1 e; exact hp1.trans ((have q := ih _ _ _ _ _ _ e; q).trans (have q := ih _ _ _ _ _ _ h; q))
                  · cases h
                · split at h
                  · exact hp1.trans (have q := ih _ _ _ _ _ _ h; q)
                  · cases h
              · exact hp1.trans (have q := ih _ _ _ _ _ _ h; q)
            · cases h
          split at h
          · exact hstep _ h
          · obtain ⟨q, hq, e⟩ := (allSame_eq h).2.1
            obtain ⟨i, _, e2⟩ := List.mem_map.1 hq
            exact hstep i (e2.trans e)
    | call f args =>
      simp only [ev] at h
      split at h
      · cases h; exact List.suffix_append _ _
      split at h
      · split at h
        · split at h
          · rename_i st1 e
            have q := ih _ _ _ _ _ _ e
            rw [(finE_cs h).1]; exact q
          · rename_i st1 e
            have q := ih _ _ _ _ _ _ e
            rw [(finE_cs h).1]; exact q
          · cases h
        · cases h
      · cases h
    | round l args =>
      simp only [ev] at h
      split at h
      case h_2 => cases h
      split at h
      case isFalse => cases h
      split at h
      case h_2 => cases h
      rename_i st1 e1
      have q1 := ih _ _ _ _ _ _ e1
      split at h
      case h_2 => cases h
      split at h
      case isFalse => cases h
      split at h
      case h_2 => cases h
      rename_i x st2 e2
      have q2 := ih _ _ _ _ _ _ e2
      split at h
      · cases h; exact q1.trans q2
      · cases h

theorem ev_cs (C : Cfg) (n : Nat) (ro : Nat → Bool) (rd : Bool) (job : Job) (st : St) (r : X) (st' : St) (h : ev C ro rd n job st = some (r, st')) : ∀ p ∈ st.cs, p ∈ st'.cs :=
  fun p hp => (ev_sfx C n ro rd job st r st' h).subset hp
theorem stepD_sfx {C : Cfg} {n : Nat} {ro : Nat → Bool} {rd : Bool} {n0 : Nat} {arr : Array Oper} {fr : List Nat} {k : Nat} {listed : Array Bool} {st st' : St} {i : Nat} {r : X}
    (h : stepD C ro (fun j s => ev C ro rd n j s) n0 arr fr k listed st i = some (r, st')) : st.cs <:+ st'.cs := by
  simp only [stepD] at h
  split at h
  · rename_i o ho
    have hp1 := wantE_cs arr o st
    split at h
    · split at h
      · split at h
        · rename_i v st1 e; exact hp1.trans ((have q := ev_sfx C _ _ _ _ _ _ _ e; q).trans (have q := ev_sfx C _ _ _ _ _ _ _ h; q))
        · cases h
      · split at h
        · exact hp1.trans (have q := ev_sfx C _ _ _ _ _ _ _ h; q)
        · cases h
    · exact hp1.trans (have q := ev_sfx C _ _ _ _ _ _ _ h; q)
  · cases h

def KindOk (r : X) : Job → Prop
  | .code _ => ∀ v, r ≠ .val v
  | .loop _ => ∀ v, r ≠ .val v
  | .scope _ _ => ∀ v, r ≠ .val v
  | .ops _ _ => r = .normal
  | .draw _ _ _ _ _ => r = .normal
  | .call _ _ => ∃ v, r = .val v
  | .round _ _ => ∃ v, r = .val v
theorem ev_kind (C : Cfg) : ∀ (n : Nat) (ro : Nat → Bool) (rd : Bool) (job : Job) (st : St) (r : X) (st' : St), ev C ro rd n job st = some (r, st') → KindOk r job := by
  intro n
  induction n with
  | zero => intro ro rd job st r st' h; cases rd <;> cases h
  | succ n ih =>
    intro ro rd job st r st' h
    cases job with
    | code c =>
      cases c <;> simp only [ev] at h
      case skip => cases h; exact fun v e => by cases e
      case label => cases h; exact fun v e => by cases e
      case region id ops d =>
        cases d
        · have : r = .normal := ih _ _ _ _ _ _ h
          exact fun v e => by rw [this] at e; cases e
        · simp only at h
          split at h
          · have : r = .normal := ih _ _ _ _ _ _ h
            exact fun v e => by rw [this] at e; cases e
          · cases h
      case seq a b =>
        split at h
        · (have := ih _ _ _ _ _ _ h; exact this)
        · (have := ih _ _ _ _ _ _ h; exact this)
      case cond c a b =>
        split at h
        · (have := ih _ _ _ _ _ _ h; exact this)
        · (have := ih _ _ _ _ _ _ h; exact this)
        · cases h
      case block id b =>
        split at h
        · split at h <;> (cases h; exact fun v e => by cases e)
        · (have := ih _ _ _ _ _ _ h; exact this)
      case loop b => (have := ih _ _ _ _ _ _ h; exact this)
      case exit => cases h; exact fun v e => by cases e
      case goto => cases h; exact fun v e => by cases e
      case ret => cases h; exact fun v e => by cases e
      case scope b => (have := ih _ _ _ _ _ _ h; exact this)
      case rangeFunc f ps a b =>
        split at h
        · cases h
        split at h
        case h_2 => cases h
        split at h
        case isFalse => cases h
        split at h
        case h_2 => cases h
        split at h
        case h_2 => cases h
        split at h
        case isFalse => cases h
        split at h
        · cases h; exact fun v e => by cases e
        · (have := ih _ _ _ _ _ _ h; exact this)
      case refuse => cases h
    | loop b =>
      simp only [ev] at h
      split at h
      · (have := ih _ _ _ _ _ _ h; exact this)
      · exact ih _ _ (.code b) _ _ _ h
    | scope b c =>
      simp only [ev] at h
      split at h
      · split at h
        · (have := ih _ _ _ _ _ _ h; exact this)
        · cases h; exact fun v e => by cases e
      · exact ih _ _ (.code c) _ _ _ h
    | ops arr rest =>
      cases rest with
      | nil => simp only [ev] at h; cases h; rfl
      | cons o rest =>
        simp only [ev] at h
        split at h
        · split at h
          · exact ih _ _ (.ops arr rest) _ _ _ h
          · split at h
            · split at h
              · exact ih _ _ (.ops arr rest) _ _ _ h
              · cases h
            · split at h
              · exact ih _ _ (.ops arr rest) _ _ _ h
              · cases h
        · exact ih _ _ (.ops arr rest) _ _ _ h
    | draw n0 arr fr k listed =>
      simp only [ev] at h
      split at h
      · cases h; rfl
      · cases h
      · rename_i k2
        split at h
        · split at h
          · split at h
            · split at h
              · (have := ih _ _ _ _ _ _ h; exact this)
              · split at h
                · split at h
                  · (have := ih _ _ _ _ _ _ h; exact this)
                  · cases h
                · cases h
            · (have := ih _ _ _ _ _ _ h; exact this)
          · cases h
        · split at h
          · simp only [stepD] at h
            split at h
            · split at h
              · split at h
                · split at h
                  · (have := ih _ _ _ _ _ _ h; exact this)
                  · cases h
                · split at h
                  · (have := ih _ _ _ _ _ _ h; exact this)
                  · cases h
              · (have := ih _ _ _ _ _ _ h; exact this)
            · cases h
          · exact (allSame_eq h).1
    | call f args =>
      simp only [ev] at h
      split at h
      · cases h; exact ⟨_, rfl⟩
      split at h
      · split at h
        · split at h
          · exact (finE_cs h).2.2
          · exact (finE_cs h).2.2
          · cases h
        · cases h
      · cases h
    | round l args =>
      simp only [ev] at h
      split at h
      case h_2 => cases h
      split at h
      case isFalse => cases h
      split at h
      case h_2 => cases h
      split at h
      case h_2 => cases h
      split at h
      case isFalse => cases h
      split at h
      case h_2 => cases h
      split at h
      · cases h; exact ⟨_, rfl⟩
      · cases h
/-- a call, or a round, leaves the frame's marks -/
theorem ev_ds {C : Cfg} {n : Nat} {ro : Nat → Bool} {rd : Bool} {job : Job} {st st' : St} {r : X} (hj : (∃ f args, job = .call f args) ∨ ∃ l args, job = .round l args) (h : ev C ro rd n job st = some (r, st')) : st'.ds = st.ds := by
  cases n with
  | zero => cases rd <;> cases h
  | succ n =>
    rcases hj with ⟨f, args, rfl⟩ | ⟨l, args, rfl⟩
    · simp only [ev] at h
      split at h
      · cases h; rfl
      split at h
      · split at h
        · split at h
          · exact (finE_cs h).2.1
          · exact (finE_cs h).2.1
          · cases h
        · cases h
      · cases h
    · simp only [ev] at h
      split at h
      case h_2 => cases h
      split at h
      case isFalse => cases h
      split at h
      case h_2 => cases h
      split at h
      case h_2 => cases h
      split at h
      case isFalse => cases h
      split at h
      case h_2 => cases h
      split at h
      · cases h; rfl
      · cases h
end Go.Proofs.YthbkjhacnnoolaaDoorZev
end
