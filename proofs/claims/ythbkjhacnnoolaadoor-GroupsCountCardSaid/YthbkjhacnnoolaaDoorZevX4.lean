/- Several texts in one: Zev14. No condition beyond those that each part names. -/
import Derived.Test.YthbkjhacnnoolaaDoorZevX3
/- What code does in a small world of labels: a run that can be reckoned. No condition. -/
section
namespace Go.Proofs.YthbkjhacnnoolaaDoorZev
open Go.RowKit
set_option linter.unusedVariables false
set_option linter.unusedSectionVars false
variable [Sym] [Kin] [Glob]

/-- what is told from outside: nothing, how a test ends, which labels a statement writes -/
inductive Hint where
  | auto
  | dec (b : Bool)
  | dirty (l : List Nat)
  | cells (m : Nat)
  deriving DecidableEq
/-- what a run takes for granted: how a test ends; what a symbol stands for -/
inductive Ob where
  | no
  | test (t d : Bool)
  | is (i : Nat) (b : Bool)
  | bin (op : BinOp) (t : TypeId) (x y : Value) (i : Nat)
  | un (op : UnOp) (x : Value) (i : Nat)
  | conv (s d : TypeId) (x : Value) (i : Nat)
  | built (b : Builtin) (ts : Array TypeId) (ty : TypeId) (fixed : Array Bool) (l : List Value) (i : Nat)
  | hyp (p : Nat) (l : List Value)
  | idx (t : TypeId) (x i : Value) (j : Nat)
  | fld (t : TypeId) (x : Value) (f j : Nat)
  | ld (t : TypeId) (x : Value) (j : Nat)
  | lds (t : TypeId) (x : Value) (j m : Nat)
/-- a frame's temporaries, the labels, the hints, what is taken for granted, the frame's marks -/
structure St where
  T : List Value
  H : Heap
  hs : List Hint
  cs : List Ob
  ds : List Nat := []
/-- calls of which more is known than their text: what one comes to, from which labels on, and what is taken for granted -/
abbrev Hook := (Nat → Bool) → FuncId → List Value → Heap → Nat → Option (Value × Heap × List Ob)
structure Cfg where
  P : Program
  hk : Hook := fun _ _ _ _ _ => none
  xf : FuncId → Option Outs := fun _ => none
/-- a value, its symbol read -/
def realV : Value → Value
  | .chan (some i) => Sym.val i
  | v => v
def plainV : Value → Bool
  | .bool _ | .int _ _ | .string _ => true
  | _ => false
def symV : Value → Bool
  | .chan (some _) => true
  | _ => false
/-- m symbols' values, from j on -/
def symRow (j m : Nat) : List Value := (List.range m).map fun i => Sym.val (j + i)
def Ob.Holds (P : Program) : Ob → Prop
  | .no => False
  | .test t d => t = d
  | .is i b => Sym.val i = .bool b
  | .bin op t x y i => plainV (realV x) = true ∧ plainV (realV y) = true ∧ (Sym.val i).oneCell' = true ∧ ∀ w, (binOp op t (realV x) (realV y)).run P w = .ok (Sym.val i) w
  | .un op x i => (Sym.val i).oneCell' = true ∧ ∀ w, (Op.unary op (realV x)).run P w = .ok (Sym.val i) w
  | .conv s d x i => (Sym.val i).oneCell' = true ∧ ∀ w, (convert s d (realV x)).run P w = .ok (Sym.val i) w
  | .built b ts ty fixed l i => (Sym.val i).oneCell' = true ∧ ∀ w, (builtin b ts ty fixed (l.map realV).toArray).run P w = .ok (.value (Sym.val i)) w
  | .hyp p l => Sym.hyp p l
  | .idx t x i j => (Sym.val j).oneCell' = true ∧ ∀ w, (Instr.indexAt t (realV x) (realV i)).run P w = .ok (Sym.val j) w
  | .fld t x f j => (Sym.val j).oneCell' = true ∧ ∀ w, (Instr.fieldAt t (realV x) f).run P w = .ok (Sym.val j) w
  | .ld t x j => (Sym.val j).oneCell' = true ∧ ∀ w, SameMem w → (Instr.loadAt t (realV x)).run P w = .ok (Sym.val j) w
  | .lds t x j m => (∀ i, i < m → (Sym.val (j + i)).oneCell' = true) ∧ ∀ w, SameMem w → (Instr.loadAt t (realV x)).run P w = .ok (.agg (symRow j m).toArray) w
inductive X where
  | normal
  | exit (id : Nat)
  | goto (l : Nat)
  | ret
  | val (v : Value)
inductive Job where
  | code (c : Code)
  | loop (c : Code)
  | scope (b c : Code)
  | ops (arr : Array Oper) (rest : List Oper)
  | draw (n0 : Nat) (arr : Array Oper) (fr : List Nat) (k : Nat) (listed : Array Bool)
  | call (f : FuncId) (args : List Value)
  | round (l : Nat) (args : List Value)

def putT (T : List Value) (d : Option Tmp) (v : Value) : List Value :=
  match d with
  | some d => T.set d v
  | none => T

def tmpOf : Operand → Option Tmp
  | .tmp i => some i
  | _ => none
/-- how a test ends -/
def decE (i : Option Tmp) (t : Bool) (st : St) : Bool × St :=
  match st.hs with
  | .auto :: r => (t, { st with hs := r })
  | _ => (t, st)

def yieldE (arr : Array Oper) (T : List Value) (j : Nat) : Option (Option Tmp × Bool) :=
  match (arr[j]?).bind (·.dst) with
  | some d => match T[d]? with
    | some (.bool b) => some (some d, b)
    | _ => none
  | none => none
/-- a test's value that is not there yet: a symbol's? -/
def dimE (arr : Array Oper) (T : List Value) (j : Nat) : Option (Tmp × Option Nat) :=
  match (arr[j]?).bind (·.dst) with
  | some d => match T[d]? with
    | some (.chan c) => some (d, c)
    | _ => none
  | none => none
/-- how a symbol's test ends -/
def decS (i : Nat) (d : Option Tmp) (st : St) : Bool × St :=
  match st.hs with
  | .dec b :: r => (b, { st with T := putT st.T d (.bool b), hs := r, cs := .is i b :: st.cs })
  | _ => (false, { st with cs := .no :: st.cs })
/-- is an operation to be done? -/
def wantE (arr : Array Oper) (o : Oper) (st : St) : Bool × St :=
  match o.guard with
  | none => (true, st)
  | some (j, want) => match yieldE arr st.T j with
    | some (d, b) => let (c, st) := decE d b st; (c == want, st)
    | none => match dimE arr st.T j with
      | some (d, some i) => let (c, st) := decS i (some d) st; (c == want, st)
      | some (_, none) => (false, { st with cs := .no :: st.cs })
      | none => (false, st)
/-- an operation that only reckons, on a symbol -/
def symE (T : List Value) (o : Oper) (n : Nat) : Option Ob :=
  match o.op with
  | .binOp op t x y _ => match opd T x, opd T y with
    | some a, some b => if (symV a && (symV b || plainV b)) || (plainV a && symV b) then some (.bin op t a b n) else none
    | _, _ => none
  | .unOp op _ x => match opd T x with
    | some a => if symV a then some (.un op a n) else none
    | none => none
  | .convert s d x => match opd T x with
    | some a => if symV a then some (.conv s d a n) else none
    | none => none
  | .call { callee := .builtin b, args, argTypes } => match opds T args.toList with
    | some l => if (b == .len || b == .min || b == .max) && l.any symV && l.all (fun v => symV v || plainV v) then some (.built b argTypes o.type (args.map fun | .const _ => true | _ => false) l n) else none
    | none => none
  | .indexAddr t x i => match opd T x, opd T i with
    | some a, some b => if (symV a && (symV b || plainV b)) then some (.idx t a b n) else none
    | _, _ => none
  | .fieldAddr t x f => match opd T x with
    | some a => if symV a then some (.fld t a f n) else none
    | none => none
  | .load t x => match opd T x with
    | some a => if symV a then some (.ld t a n) else none
    | none => none
  | _ => none
/-- a load of so many cells, as the next hint tells, through a pointer that is a symbol -/
def symL (st : St) (o : Oper) : Option St :=
  match st.hs, o.op with
  | .cells 0 :: r, .load t x => match opd st.T x with
    | some a => if symV a && (Kin.kind st.cs.length).isNone then some { st with T := putT st.T o.dst (.chan (some st.cs.length)), hs := r, cs := .ld t a st.cs.length :: st.cs } else none
    | none => none
  | .cells m :: r, .load t x => match opd st.T x with
    | some a => if symV a && ((List.range m).all fun i => (Kin.kind (st.cs.length + i)).isNone) then
        some { st with T := putT st.T o.dst (.agg ((List.range m).map fun i => .chan (some (st.cs.length + i))).toArray), hs := r, cs := List.replicate (m - 1) (.test true true) ++ .lds t a st.cs.length m :: st.cs }
      else none
    | none => none
  | _, _ => none
def symS (st : St) (o : Oper) : Option St := orE (symL st o) <|
  match symE st.T o st.cs.length with
  | some ob => if Kin.kind st.cs.length = none then some { st with T := putT st.T o.dst (.chan (some st.cs.length)), cs := ob :: st.cs } else none
  | none => none

def targetE (P : Program) (T : List Value) (o : Oper) : Option Job :=
  match o.op with
  | .call { callee := .value f, args, .. } =>
    match opd T f, opds T args.toList with
    | some (.func (.func g) first captured), some as => match P.funcs[g]? with
      | some fn => if fn.body.isSome then some (.call g (first.toList ++ as ++ captured.toList)) else none
      | none => none
    | some (.func (.yield l) first captured), some as => if first.size = 0 ∧ captured.size = 0 then some (.round l as) else none
    | _, _ => none
  | _ => none

/-- a call through an interface, its method the type's own -/
def invE (P : Program) (H : Heap) (T : List Value) (o : Oper) : Option Job :=
  match o.op with
  | .call { callee := .invoke recv name, args, .. } =>
    match opd T recv, opds T args.toList with
    | some (.iface t v), some as => match P.info? t with
      | some i => match i.methods.find? (fun m => m.name == name) with
        | some m =>
          if m.path.isEmpty = true then
            match m.func with
            | some (g, pr) =>
              if (P.funcs[g]?.any fun fn => fn.body.isSome) = true then
                match P.underlying t, pr with
                | some (.pointer e), false => match loadE P H e v with
                  | some x => some (.call g (x :: as))
                  | none => none
                | some (.pointer _), true => some (.call g (v :: as))
                | some _, false => some (.call g (v :: as))
                | _, _ => none
              else none
            | none => none
          else none
        | none => none
      | none => none
    | _, _ => none
  | _ => none
def jobE (P : Program) (H : Heap) (T : List Value) (o : Oper) : Option Job := orE (targetE P T o) (invE P H T o)

def resultE (P : Program) (H : Heap) (T : List Value) : ResultVar → Option Value
  | .tmp t => some (T.getD t undef)
  | .cell a t => loadE P H t (T.getD a undef)
def resultsE (P : Program) (H : Heap) (T : List Value) : List ResultVar → Option (List Value)
  | [] => some []
  | r :: rs => match resultE P H T r, resultsE P H T rs with
    | some v, some vs => some (v :: vs)
    | _, _ => none
def retE (P : Program) (fn : Func) (H : Heap) (T : List Value) : Option Value :=
  match resultsE P H T fn.results.toList with
  | some [v] => some v
  | some vs => some (.tuple vs.toArray)
  | none => none

/-- a pointer at what nobody writes -/
def oldPtr (ro : Nat → Bool) (n0 : Nat) : Value → Bool
  | .pointer (some ⟨l, _, none⟩) => decide (l < n0) && ro l
  | _ => false
/-- an operation that only reckons, or reads what nobody writes -/
def quietE (ro : Nat → Bool) (n0 : Nat) (T : List Value) (o : Oper) : Bool :=
  match o.op with
  | .move _ | .assign _ | .pick .. | .build .. | .nilCheck _ | .unOp .. | .sliceToArrayPointer .. | .makeInterface .. | .slice .. | .fieldAddr .. | .field .. | .indexAddr .. | .index .. | .extract .. => true
  | .binOp _ _ x y _ => match opd T x, opd T y with
    | some (.int _ _), some (.int _ _) => true
    | some (.string _), some (.string _) => true
    | some (.bool _), some (.bool _) => true
    | some (.agg _), some (.agg _) => true
    | _, _ => false
  | .load _ a => match opd T a with
    | some v => oldPtr ro n0 v
    | none => false
  | .convert _ _ x => match opd T x with
    | some (.int _ _) => true
    | _ => false
  | .call { callee := .builtin b, args, .. } =>
    match b, opds T args.toList with
    | .len, some [.slice _ _ _] => true
    | .len, some [.string _] => true
    | .cap, some [_] => true
    | .min, some _ => true
    | .max, some _ => true
    | _, _ => false
  | _ => false
/-- the operations that wait for each one that bears on them, or are waited for -/
def freeE (arr : Array Oper) : List Nat := (List.range arr.size).filter fun i =>
  match arr[i]? with
  | none => false
  | some oi => (List.range arr.size).all fun j => j == i || oi.after.any (fun e => Region.binds .any e && e.on == j) || match arr[j]? with
    | some oj => oj.after.any (fun e => Region.binds .any e && e.on == i) || oi.apart arr oj
    | none => true
def takeE (ro : Nat → Bool) (n0 : Nat) (arr : Array Oper) (fr : List Nat) (st : St) (i : Nat) : Bool :=
  fr.contains i && match arr[i]? with
    | some o => !(wantE arr o st).1 || quietE ro n0 st.T o || (symE st.T o 0).isSome
    | none => false
def popDirty : List Hint → List Nat × List Hint
  | .dirty l :: r => (l, r)
  | hs => ([], hs)
def roE (ro : Nat → Bool) (n : Nat) (dl : List Nat) (l : Nat) : Bool := ro l || (decide (l < n) && !dl.contains l)

/-- the same value, but for the labels' names? -/
def likeV (f : Nat → Nat) : Nat → Value → Value → Bool
  | 0, _, _ => false
  | n + 1, v, w =>
    match v, w with
    | .bool a, .bool b => a == b
    | .int k a, .int j b => k == j && decide (a = b)
    | .float k a, .float j b => k == j && a == b
    | .string a, .string b => a.data.toList == b.data.toList
    | .pointer none, .pointer none => true
    | .pointer (some a), .pointer (some b) => f a.block == b.block && a.off == b.off && a.spot == b.spot
    | .slice none n c, .slice none m d => n == m && c == d
    | .slice (some a) n c, .slice (some b) m d => f a.block == b.block && a.off == b.off && a.spot == b.spot && n == m && c == d
    | .map none, .map none => true
    | .map (some a), .map (some b) => f a == b
    | .chan a, .chan b => a == b
    | .complex _ a l, .complex _ b m => a == b && f l == m
    | .func (.yield i) a c, .func (.yield j) b d => f i == j && a.size == 0 && b.size == 0 && c.size == 0 && d.size == 0
    | .func g a c, .func h b d => calmFn g && g == h && a.size == b.size && c.size == d.size && (a.toList.zip b.toList).all (fun p => likeV f n p.1 p.2) && (c.toList.zip d.toList).all (fun p => likeV f n p.1 p.2)
    | .nilFunc, .nilFunc => true
    | .iface t a, .iface u b => t == u && likeV f n a b
    | .nilIface, .nilIface => true
    | .agg a, .agg b => a.size == b.size && (a.toList.zip b.toList).all (fun p => likeV f n p.1 p.2)
    | .tuple a, .tuple b => a.size == b.size && (a.toList.zip b.toList).all (fun p => likeV f n p.1 p.2)
    | _, _ => false
def likeVs (f : Nat → Nat) (l m : List Value) : Bool := l.length == m.length && (l.zip m).all (fun p => likeV f 100 p.1 p.2)
def likeO (f : Nat → Nat) (a b : Option Obj) : Bool :=
  match a, b with
  | none, _ => true
  | some (.cells c _ z), some (.cells d _ y) => likeVs f c.toList d.toList && z == y
  | some (.map es k), some (.map fs j) => es.size == fs.size && k == j && (es.toList.zip fs.toList).all (fun p => p.1.born == p.2.born && likeV f 100 p.1.key p.2.key && likeV f 100 p.1.val p.2.val)
  | some (.mapIter none s e l), some (.mapIter none s2 e2 l2) => s == s2 && e == e2 && l == l2
  | some (.mapIter (some m) s e l), some (.mapIter (some m2) s2 e2 l2) => f m == m2 && s == s2 && e == e2 && l == l2
  | some (.stringIter s k), some (.stringIter t j) => s.data.toList == t.data.toList && k == j
  | some (.pending _ i), some (.pending _ j) => i == j
  | some (.view a _), some (.view b _) => a.block == b.block && a.off == 0 && b.off == 0 && a.spot.isNone && b.spot.isNone
  | _, _ => false
/-- two records of one loop -/
def likeLoop (f : Nat → Nat) (a b : Option Obj) : Bool :=
  match a, b with
  | some (.loop r), some (.loop q) => decide (r.state = q.state) && r.pending.isNone && q.pending.isNone && likeVs f r.tmps.toList q.tmps.toList
  | _, _ => false
/-- a list as a function; what it does not name stays -/
def nameE (l : List Nat) (i : Nat) : Nat := l.getD i i
/-- the labels from n1 on by other names: the list l tells them, the list k tells them back -/
def likeL (ro : Nat → Bool) (n0 n1 : Nat) (l k : List Nat) (s t : St) : Bool :=
  likeVs (nameE l) s.T t.T && s.ds.map (nameE l) == t.ds && s.H.length == t.H.length && l.length == s.H.length && s.hs == t.hs &&
  (List.range s.H.length).all fun i => decide (nameE l i < s.H.length) && nameE k (nameE l i) == i && (decide (n1 ≤ i) || nameE l i == i) && (!ro (nameE l i) || ro i) && ((decide (i < n0) && (ro i || likeLoop (nameE l) (s.H.getD i none) (t.H.getD i none))) || likeO (nameE l) (s.H.getD i none) (t.H.getD (nameE l i) none))
def turnL (n1 m r : Nat) : List Nat := List.range n1 ++ (List.range m).map fun i => n1 + (i + r) % m
/-- two neighbours in each other's place -/
def swapL (n1 m r : Nat) : List Nat := List.range n1 ++ (List.range m).map fun i => if i = r then n1 + r + 1 else if i = r + 1 then n1 + r else n1 + i
def likeSt (ro : Nat → Bool) (n0 n1 : Nat) (m0 : Nat) (s t : St) : Bool :=
  let m := s.H.length - n1
  s.cs.length == m0 && t.cs.length == m0 && ((List.range (m + 1)).map (fun r => (turnL n1 m r, turnL n1 m (m - r))) ++ (List.range (m - 1)).map (fun r => (swapL n1 m r, swapL n1 m r))).any fun p => likeL ro n0 n1 p.1 p.2 s t
/-- what each order gives, if it is the same -/
def allSame (ro : Nat → Bool) (n0 n1 m0 : Nat) : List (Option (X × St)) → Option (X × St)
  | some (.normal, s) :: rs => if rs.all (fun q => match q with | some (.normal, t) => likeSt ro n0 n1 m0 s t | _ => false) = true then some (.normal, s) else none
  | _ => none
/-- one operation of a region that draws its order, whatever it is, and what follows -/
def stepD (C : Cfg) (ro : Nat → Bool) (rec : Job → St → Option (X × St)) (n0 : Nat) (arr : Array Oper) (fr : List Nat) (k : Nat) (listed : Array Bool) (st : St) (i : Nat) : Option (X × St) :=
  match arr[i]? with
  | some o =>
    let (c, st) := wantE arr o st
    if c then
      match jobE C.P st.H st.T o with
      | some j => match rec j st with
        | some (.val v, st1) => rec (.draw n0 arr fr k (listed.setIfInBounds i true)) { st1 with T := putT st.T o.dst v }
        | _ => none
      | none => match opX C.P C.xf ro st.T st.H o with
        | some (v, H') => rec (.draw n0 arr fr k (listed.setIfInBounds i true)) { st with T := putT st.T o.dst v, H := H' }
        | none => none
    else rec (.draw n0 arr fr k (listed.setIfInBounds i true)) { st with T := putT st.T o.dst undef }
  | none => none

/-! ### loops over functions -/
def noDefer (ops : Array Oper) : Bool := ops.all fun o => match o.op with | .defer _ => false | _ => true
def loopAt (H : Heap) (l : Nat) : Option Loop :=
  match H[l]? with
  | some (some (.loop r)) => some r
  | _ => none
/-- the jump that a round leaves by -/
def jumpE : X → Option (Option Code)
  | .normal => some none
  | .exit id => some (some (.exit id))
  | .goto l => some (some (.goto l))
  | .ret => some (some .ret)
  | .val _ => none
def setAll : List Tmp → List Value → List Value → List Value
  | t :: ts, v :: vs, T => setAll ts vs (T.set t v)
  | _, _, T => T
/-- a frame's marks are come to -/
def marksE (ro : Nat → Bool) (H : Heap) : List Nat → Option Heap
  | [] => some H
  | d :: ds => match H[d]? with
    | some (some (.deferred (some []))) => if ro d = false then marksE ro (H.set d (some (.deferred none))) ds else none
    | _ => none
def finE (C : Cfg) (ro : Nat → Bool) (fn : Func) (ds : List Nat) (st : St) : Option (X × St) :=
  match marksE ro st.H st.ds with
  | some H2 => match retE C.P fn H2 st.T with
    | some v => some (.val v, { st with H := H2, ds := ds })
    | none => none
  | none => none
/-- a loop over a function begins: the mark's label, the record's -/
def loopH (H : Heap) (T : List Value) (ps : Array Tmp) (a b : Code) : Heap :=
  (H ++ [some (.deferred (some []))]) ++ [some (.loop { state := .ready, pending := none, fn := 0, tmps := T.toArray, params := ps, assign := a, body := b, defers := 0 })]

/-- a run, so many steps deep; rd: in a round of a loop over a function -/
def ev (C : Cfg) (ro : Nat → Bool) : Bool → Nat → Job → St → Option (X × St)
  | _, 0, _, _ => none
  | rd, n + 1, .code c, st =>
    match c with
    | .skip => some (.normal, st)
    | .label _ => some (.normal, st)
    | .region _ ops false => ev C ro rd n (.ops ops ops.toList) st
    | .region _ ops true =>
      if (Region.noSelect ops && noDefer ops) = true then
        ev C (roE ro st.H.length (popDirty st.hs).1) rd n (.draw st.H.length ops (freeE ops) ops.size (Array.replicate ops.size false)) { st with hs := (popDirty st.hs).2 }
      else none
    | .seq a b => match ev C ro rd n (.code a) st with
      | some (.normal, st) => ev C ro rd n (.code b) st
      | r => r
    | .cond c a b => match opd st.T c with
      | some (.bool t) =>
        let (d, st) := decE (tmpOf c) t st
        ev C ro rd n (.code (if d then a else b)) st
      | some (.chan (some i)) =>
        let (d, st) := decS i (tmpOf c) st
        ev C ro rd n (.code (if d then a else b)) st
      | _ => none
    | .block id b => match ev C ro rd n (.code b) st with
      | some (.exit k, st) => if k = id then some (.normal, st) else some (.exit k, st)
      | r => r
    | .loop b => ev C ro rd n (.loop b) st
    | .exit id => some (.exit id, st)
    | .goto l => some (.goto l, st)
    | .ret => some (.ret, st)
    | .scope b => ev C ro rd n (.scope b b) st
    | .rangeFunc f ps a b =>
      if rd then none else
      match opd st.T f with
      | some (.func (.func g) first captured) =>
        if (C.P.funcs[g]?.any fun fn => fn.body.isSome) = true then
          match ev C ro rd n (.call g (first.toList ++ [.func (.yield (st.H.length + 1)) #[] #[]] ++ captured.toList)) { st with H := loopH st.H st.T ps a b } with
          | some (.val _, st1) => match loopAt st1.H (st.H.length + 1) with
            | some r =>
              if r.state ≠ .busy ∧ ro (st.H.length + 1) = false then
                match r.pending with
                | none => some (.normal, { st1 with T := st.T, H := st1.H.set (st.H.length + 1) (some (.loop { r with state := .exhausted })), ds := st.H.length :: st.ds })
                | some c => ev C ro rd n (.code c) { st1 with T := st.T, H := st1.H.set (st.H.length + 1) (some (.loop { r with state := .exhausted })), ds := st.H.length :: st.ds }
              else none
            | none => none
          | _ => none
        else none
      | _ => none
    | .refuse _ => none
  | rd, n + 1, .loop b, st => match ev C ro rd n (.code b) st with
    | some (.normal, st) => ev C ro rd n (.loop b) st
    | r => r
  | rd, n + 1, .scope b c, st => match ev C ro rd n (.code c) st with
    | some (.goto l, st) => match findLabel b l with
      | some rest => ev C ro rd n (.scope b rest) st
      | none => some (.goto l, st)
    | r => r
  | rd, n + 1, .ops arr [], st => some (.normal, st)
  | rd, n + 1, .ops arr (o :: rest), st =>
    let (c, st) := wantE arr o st
    if c then
      match symS st o with
      | some st => ev C ro rd n (.ops arr rest) st
      | none => match jobE C.P st.H st.T o with
        | some j => match ev C ro rd n j st with
          | some (.val v, st1) => ev C ro rd n (.ops arr rest) { st1 with T := putT st.T o.dst v }
          | _ => none
        | none => match opX C.P C.xf ro st.T st.H o with
          | some (v, H') => ev C ro rd n (.ops arr rest) { st with T := putT st.T o.dst v, H := H' }
          | none => none
    else ev C ro rd n (.ops arr rest) { st with T := putT st.T o.dst undef }
  | rd, n + 1, .draw n0 arr fr k listed, st =>
    match Region.ready .any arr listed, k with
    | [], _ => some (.normal, st)
    | _ :: _, 0 => none
    | i0 :: rs, k + 1 =>
      match (i0 :: rs).find? (takeE ro n0 arr fr st) with
      | some i => match arr[i]? with
        | some o =>
          let (c, st) := wantE arr o st
          if c then
            match symS st o with
            | some st => ev C ro rd n (.draw n0 arr fr k (listed.setIfInBounds i true)) st
            | none =>
              if quietE ro n0 st.T o = true then
                match opE C.P ro st.T st.H o with
                | some (v, _) => ev C ro rd n (.draw n0 arr fr k (listed.setIfInBounds i true)) { st with T := putT st.T o.dst v }
                | none => none
              else none
          else ev C ro rd n (.draw n0 arr fr k (listed.setIfInBounds i true)) { st with T := putT st.T o.dst undef }
        | none => none
      | none => match rs with
        | [] => stepD C ro (fun j s => ev C ro rd n j s) n0 arr fr k listed st i0
        | _ :: _ => allSame ro n0 st.H.length st.cs.length ((i0 :: rs).map fun i => stepD C ro (fun j s => ev C ro rd n j s) n0 arr fr k listed st i)
  | _, n + 1, .call f args, st => match C.hk ro f args st.H st.cs.length with
    | some (v, H', obs) => some (.val v, { st with H := H', cs := obs ++ st.cs })
    | none => match C.P.funcs[f]? with
      | some fn => match fn.body with
        | some c => match ev C ro false n (.code c) { st with T := args ++ List.replicate (fn.ntmps - args.length) undef, ds := [] } with
          | some (.normal, st1) => finE C ro fn st.ds st1
          | some (.ret, st1) => finE C ro fn st.ds st1
          | _ => none
        | none => none
      | none => none
  | _, n + 1, .round l args, st => match loopAt st.H l with
    | some r =>
      if r.state = .ready ∧ args.length = r.params.size ∧ ro l = false then
        match ev C ro true n (.code r.assign) { st with T := setAll r.params.toList args r.tmps.toList, ds := [] } with
        | some (.normal, st1) => match loopAt st1.H l with
          | some r1 =>
            if r1.state = .ready then
              match ev C ro true n (.code r.body) { st1 with H := st1.H.set l (some (.loop { r1 with state := .busy })) } with
              | some (x, st2) => match loopAt st2.H l, jumpE x with
                | some r2, some j => some (.val (.bool j.isNone), { st2 with H := st2.H.set l (some (.loop { r2 with state := if j.isNone then .ready else .done, pending := j })), ds := st.ds })
                | _, _ => none
              | none => none
            else none
          | none => none
        | _ => none
      else none
    | none => none
end Go.Proofs.YthbkjhacnnoolaaDoorZev
end
