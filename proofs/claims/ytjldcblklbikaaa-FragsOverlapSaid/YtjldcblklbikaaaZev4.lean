/- More operations in a small world of labels: comparisons of addresses, fields, elements, slices, values that are built. No condition. -/
import Derived.Test.YtjldcblklbikaaaZev3
namespace Go.Proofs.YtjldcblklbikaaaZev
open Go.RowKit
set_option linter.unusedVariables false

section
variable {P : Program} {w0 w w1 : World} {K : Nat → Prop} {ro : Nat → Bool} {β : Env} {H : Heap}

theorem flat_eq {v v' : Value} (h : flat v = true) (k : VR β v v') : v' = v := by
  refine still_eq ?_ k
  unfold flat at h
  split at h
  · exact h
  · rename_i hn
    cases v <;> first | exact h | (simp [bare] at h; done)

/-! ### comparisons -/
def eqE (P : Program) (H : Heap) (t : TypeId) (x y : Value) : Option Bool :=
  match P.underlying t, x, y with
  | some (.pointer _), .pointer none, .pointer b => some b.isNone
  | some (.pointer _), .pointer (some _), .pointer none => some false
  | some (.pointer e), .pointer (some ⟨l, o, none⟩), .pointer (some ⟨k, q, none⟩) =>
    match P.info? e, H[l]?, H[k]? with
    | some i, some (some (.cells _ _ (0, 0))), some (some (.cells _ _ (0, 0))) => if i.size = 0 then none else some (l == k && o == q)
    | _, _, _ => none
  | some (.slice _), .slice none _ _, .slice b _ _ => some b.isNone
  | some (.slice _), .slice (some _) _ _, .slice none _ _ => some false
  | some (.map _ _), .map none, .map b => some b.isNone
  | some (.map _ _), .map (some _), .map none => some false
  | some (.func _ _ _), .nilFunc, .func _ _ _ => some false
  | some (.func _ _ _), .func _ _ _, .nilFunc => some false
  | some (.interface _), .nilIface, .iface _ _ => some false
  | some (.interface _), .iface _ _, .nilIface => some false
  | some _, x, y => if flat x && flat y then pureRun P (Op.equal t x y) else none
  | _, _, _ => none

theorem run_equal_succ (t : TypeId) (x y : Value) : ∃ d, Op.equal t x y = Op.equalIn (d + 1) t x y := ⟨9999, rfl⟩

theorem eqE_run (h : M w0 K ro β H w) {t : TypeId} {x y x' y' : Value} {b : Bool} (hx : VR β x x') (hy : VR β y y') (he : eqE P H t x y = some b) :
    (Op.equal t x' y').run P w = .ok b w := by
  have fl : ∀ {x y : Value}, VR β x x' → VR β y y' → (if flat x && flat y then pureRun P (Op.equal t x y) else none) = some b → (Op.equal t x' y').run P w = .ok b w := by
    intro x y hx hy he
    split at he
    · rename_i hf
      simp only [Bool.and_eq_true] at hf
      rw [flat_eq hf.1 hx, flat_eq hf.2 hy]
      exact (Q.equal t hf.1 hf.2).run he w
    · cases he
  obtain ⟨d, hd⟩ := run_equal_succ t x' y'
  unfold eqE at he
  split at he
  · rename_i hu
    cases hx; cases hy <;> (cases he; rw [hd]; simp [Op.equalIn, run_underlying hu])
  · rename_i hu
    cases hx; cases hy; cases he; rw [hd]; simp [Op.equalIn, run_underlying hu]
  · rename_i e l o k q hu
    split at he
    · rename_i i c1 t1 c2 t2 hi hl hk
      split at he
      · cases he
      · rename_i hz
        cases he
        obtain ⟨p1, c1', t1', f1, a1, b1, r1, z1⟩ := h.cells (o := o) hl
        obtain ⟨p2, c2', t2', f2, a2, b2, r2, z2⟩ := h.cells (o := q) hk
        have z1 := z1 rfl
        have z2 := z2 rfl
        subst z1; subst z2
        cases hx with
        | ptr k1 =>
          cases hy with
          | ptr k2 =>
            obtain ⟨_, rfl⟩ := k1.live a1
            obtain ⟨_, rfl⟩ := k2.live a2
            rw [hd]
            have hs : (Go.sizeOf e).run P w = .ok i.size w := by simp [Go.sizeOf, typeInfo, hi]
            simp only [Op.equalIn, Sem.run_bind, run_underlying hu, Result.andThen_ok, hs, ne_eq, hz, not_false_eq_true, if_true, sameAddr]
            by_cases hlk : l = k
            · subst hlk
              rw [a1] at a2; cases a2
              by_cases hoq : o = q
              · subst hoq; simp
              · have hne : ¬ (p1.s + o = p1.s + q) := by omega
                have e1 : (o == q) = false := by simpa using hoq
                have e2 : ((⟨p1.b, p1.s + o, none⟩ : Addr) == ⟨p1.b, p1.s + q, none⟩) = false := beq_eq_false_iff_ne.2 (fun e => hne (Addr.mk.inj e).2.1)
                simp [e1, e2]
            · have hb : p1.b ≠ p2.b := fun e => hlk (h.inj _ _ _ _ a1 a2 e)
              have hb' : (p1.b == p2.b) = false := by simpa using hb
              have hlk' : (l == k) = false := by simpa using hlk
              simp [hb', hlk', World.frozen?, b1, b2, noView, viewAt, World.shape?, mayBeOne, stringish]
    · cases he
  · rename_i hu
    cases hx; cases hy <;> (cases he; rw [hd]; simp [Op.equalIn, run_underlying hu])
  · rename_i hu
    cases hx; cases hy; cases he; rw [hd]; simp [Op.equalIn, run_underlying hu]
  · rename_i hu
    cases hx; cases hy <;> (cases he; rw [hd]; simp [Op.equalIn, run_underlying hu])
  · rename_i hu
    cases hx; cases hy; cases he; rw [hd]; simp [Op.equalIn, run_underlying hu]
  · rename_i hu
    cases hx; cases hy; cases he; rw [hd]; simp [Op.equalIn, run_underlying hu]
  · rename_i hu
    cases hx; cases hy; cases he; rw [hd]; simp [Op.equalIn, run_underlying hu]
  · rename_i hu
    cases hx; cases hy; cases he; rw [hd]; simp [Op.equalIn, run_underlying hu]
  · rename_i hu
    cases hx; cases hy; cases he; rw [hd]; simp [Op.equalIn, run_underlying hu]
  · exact fl hx hy he
  · cases he

def binE (P : Program) (H : Heap) (op : BinOp) (t : TypeId) (x y : Value) : Option Value :=
  match x, y with
  | .int _ _, .int _ _ => pureRun P (binOp op t x y)
  | .string _, .string _ => pureRun P (binOp op t x y)
  | .float _ _, .float _ _ => none
  | .complex _ _ _, .complex _ _ _ => none
  | .chan _, _ => none
  | _, .chan _ => none
  | x, y =>
    match op with
    | .eql => (eqE P H t x y).map .bool
    | .neq => (eqE P H t x y).map fun b => .bool !b
    | _ => none

theorem Q.binInt (op : BinOp) (t : TypeId) (k k' : IntKind) (a b : Int) : Q P (binOp op t (.int k a) (.int k' b)) := by
  cases op <;> simp only [binOp] <;> first
    | (refine Q.ite (Q.stuck _) ?_; simp only [Op.intArith, Op.intBits, Op.intCmp]; first | exact Q.pure _ | skip)
    | skip
  all_goals first
    | (refine Q.ite (Q.stuck _) ?_; unfold Op.intDiv; refine Q.ite (Q.panic _) ?_; exact Q.pure _)
    | (unfold Op.intDiv; refine Q.ite (Q.panic _) ?_; exact Q.pure _)
    | (unfold Op.shift; refine Q.ite (Q.panic _) ?_; exact Q.pure _)
theorem Q.binStr (op : BinOp) (t : TypeId) (a b : ByteArray) : Q P (binOp op t (.string a) (.string b)) := by
  cases op <;> simp only [binOp, Op.stringOp] <;> first
    | exact Q.pure _
    | exact Q.stuck _
    | exact Q.ite (Q.unsup _) (Q.pure _)

theorem binE_run (h : M w0 K ro β H w) {op : BinOp} {t : TypeId} {x y x' y' r : Value} (hx : VR β x x') (hy : VR β y y') (he : binE P H op t x y = some r) :
    (binOp op t x' y').run P w = .ok r w ∧ VR β r r := by
  have hres : ∀ {k k' : IntKind} {a b : Int} {r : Value}, pureRun P (binOp op t (.int k a) (.int k' b)) = some r → VR β r r := by
    intro k k' a b r hr
    have h1 := (Q.binInt op t k k' a b).run hr w
    cases op <;> simp only [binOp, Op.intArith, Op.intBits, Op.intCmp, Op.intDiv, Op.shift] at h1 <;> (repeat' split at h1) <;> first
      | (simp only [Sem.run_pure, Result.ok.injEq, and_true] at h1; rw [← h1]; constructor)
      | (simp [Go.stuck] at h1; done)
      | (obtain ⟨z, w2, hz⟩ := no_panic_ok (α := Value) (P := P) (.error "integer divide by zero") w; rw [hz] at h1; cases h1)
      | (obtain ⟨z, w2, hz⟩ := no_panic_ok (α := Value) (P := P) (.error "negative shift amount") w; rw [hz] at h1; cases h1)
  have hres2 : ∀ {a b : ByteArray} {r : Value}, pureRun P (binOp op t (.string a) (.string b)) = some r → VR β r r := by
    intro a b r hr
    have h1 := (Q.binStr op t a b).run hr w
    cases op <;> simp only [binOp, Op.stringOp] at h1 <;> (repeat' split at h1) <;> first
      | (simp only [Sem.run_pure, Result.ok.injEq, and_true] at h1; rw [← h1]; constructor)
      | (simp [Go.stuck, unsupported] at h1; done)
  unfold binE at he
  split at he
  · cases hx; cases hy; exact ⟨(Q.binInt _ _ _ _ _ _).run he w, hres he⟩
  · cases hx; cases hy; exact ⟨(Q.binStr _ _ _ _).run he w, hres2 he⟩
  · cases he
  · cases he
  · cases he
  · cases he
  · rename_i n1 n2 n3 n4 n5 n6
    have hbin : ∀ op2, (op2 = .eql ∨ op2 = .neq) → binOp op2 t x' y' = (if op2 = .eql then (do pure (.bool (← Op.equal t x' y'))) else (do pure (.bool (!(← Op.equal t x' y'))))) := by
      intro op2 ho
      rcases ho with rfl | rfl
      · simp only [if_true]
        cases hx <;> cases hy <;> first
          | rfl
          | exact (n1 _ _ _ _ rfl rfl).elim
          | exact (n1 _ _ rfl rfl).elim
          | exact (n1 _ rfl).elim
          | exact (n1 _ _ rfl).elim
          | exact (n2 _ _ _ _ rfl rfl).elim
          | exact (n2 _ _ rfl rfl).elim
          | exact (n2 _ rfl).elim
          | exact (n2 _ _ rfl).elim
          | exact (n3 _ _ _ _ rfl rfl).elim
          | exact (n3 _ _ rfl rfl).elim
          | exact (n3 _ rfl).elim
          | exact (n3 _ _ rfl).elim
          | exact (n4 _ _ _ _ rfl rfl).elim
          | exact (n4 _ _ rfl rfl).elim
          | exact (n4 _ rfl).elim
          | exact (n4 _ _ rfl).elim
          | exact (n5 _ _ _ _ rfl rfl).elim
          | exact (n5 _ _ rfl rfl).elim
          | exact (n5 _ rfl).elim
          | exact (n5 _ _ rfl).elim
          | exact (n6 _ _ _ _ rfl rfl).elim
          | exact (n6 _ _ rfl rfl).elim
          | exact (n6 _ rfl).elim
          | exact (n6 _ _ rfl).elim
      · simp only [reduceCtorEq, if_false]
        cases hx <;> cases hy <;> first
          | rfl
          | exact (n1 _ _ _ _ rfl rfl).elim
          | exact (n1 _ _ rfl rfl).elim
          | exact (n1 _ rfl).elim
          | exact (n1 _ _ rfl).elim
          | exact (n2 _ _ _ _ rfl rfl).elim
          | exact (n2 _ _ rfl rfl).elim
          | exact (n2 _ rfl).elim
          | exact (n2 _ _ rfl).elim
          | exact (n3 _ _ _ _ rfl rfl).elim
          | exact (n3 _ _ rfl rfl).elim
          | exact (n3 _ rfl).elim
          | exact (n3 _ _ rfl).elim
          | exact (n4 _ _ _ _ rfl rfl).elim
          | exact (n4 _ _ rfl rfl).elim
          | exact (n4 _ rfl).elim
          | exact (n4 _ _ rfl).elim
          | exact (n5 _ _ _ _ rfl rfl).elim
          | exact (n5 _ _ rfl rfl).elim
          | exact (n5 _ rfl).elim
          | exact (n5 _ _ rfl).elim
          | exact (n6 _ _ _ _ rfl rfl).elim
          | exact (n6 _ _ rfl rfl).elim
          | exact (n6 _ rfl).elim
          | exact (n6 _ _ rfl).elim
    split at he
    · rw [hbin _ (.inl rfl)]
      cases hq : eqE P H t x y with
      | none => rw [hq] at he; cases he
      | some b =>
        rw [hq] at he; cases he
        exact ⟨by simp [eqE_run h hx hy hq], .bool _⟩
    · rw [hbin _ (.inr rfl)]
      cases hq : eqE P H t x y with
      | none => rw [hq] at he; cases he
      | some b =>
        rw [hq] at he; cases he
        exact ⟨by simp [eqE_run h hx hy hq], .bool _⟩
    · cases he

/-- the operands' guard lets a comparison by -/
def guardE (P : Program) (op : BinOp) (t : TypeId) (x y : Operand) (a b : Value) : Bool :=
  match a, b with
  | .nilIface, .nilIface => (x matches .const _) || (y matches .const _)
  | .agg _, .agg _ => !P.eqGuardType P.depth t
  | .chan _, _ => false
  | _, .chan _ => false
  | _, _ => true
theorem guardE_run {op : BinOp} {t : TypeId} {x y : Operand} {a b a' b' : Value} (ha : VR β a a') (hb : VR β b b') (hg : guardE P op t x y a b = true) (w : World) :
    (eqGuard op t x y a' b').run P w = .ok () w := by
  unfold eqGuard
  cases op <;> first
    | rfl
    | (simp only [Bool.not_true, Bool.false_eq_true, if_false]
       unfold guardE at hg
       cases ha <;> cases hb <;> first
         | (cases hg; done)
         | rfl
         | (cases x <;> cases y <;> first | rfl | (simp at hg; done))
         | (simp only [Bool.not_eq_true'] at hg; simp [hg]))

/-! ### one operand -/
def unE (P : Program) (op : UnOp) (x : Value) : Option Value :=
  match x with
  | .int _ _ | .bool _ => pureRun P (Op.unary op x)
  | _ => none
theorem unE_run {op : UnOp} {x x' r : Value} (hx : VR β x x') (he : unE P op x = some r) (w : World) : (Op.unary op x').run P w = .ok r w ∧ VR β r r := by
  unfold unE at he
  split at he
  · cases hx
    cases op <;> simp only [Op.unary, Op.intArith, Op.intBits, pureRun] at he ⊢ <;> first
      | (simp only [Sem.run_pure, Option.some.injEq] at he; subst he; exact ⟨rfl, .int _ _⟩)
      | (simp [Go.stuck] at he; done)
  · cases hx
    cases op <;> simp only [Op.unary, pureRun] at he ⊢ <;> first
      | (simp only [Sem.run_pure, Option.some.injEq] at he; subst he; exact ⟨rfl, .bool _⟩)
      | (simp [Go.stuck] at he; done)
  · cases he
end
end Go.Proofs.YtjldcblklbikaaaZev
