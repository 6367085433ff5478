/- Several texts in one: Zev14. No condition beyond those that each part names. -/
import Derived.Test.YtjldcblklbikaaaZevX3
/- What code does in a small world of labels: a run that can be reckoned. No condition. -/
section
namespace Go.Proofs.YtjldcblklbikaaaZev
open Go.RowKit
set_option linter.unusedVariables false

/-- what is told from outside: nothing, how a test ends, which labels a statement writes -/
inductive Hint where
  | auto
  | dec (b : Bool)
  | dirty (l : List Nat)
  deriving DecidableEq
structure St where
  T : List Value
  H : Heap
  hs : List Hint
  cs : List (Bool × Bool)
inductive X where
  | normal
  | exit (id : Nat)
  | goto (l : Nat)
  | ret
  | val (v : Value)
inductive Job where
  | code (c : Code)
  | loop (c : Code)
  | scope (b c : Code)
  | ops (arr : Array Oper) (rest : List Oper)
  | draw (n0 : Nat) (arr : Array Oper) (fr : List Nat) (k : Nat) (listed : Array Bool)
  | call (f : FuncId) (args : List Value)

def putT (T : List Value) (d : Option Tmp) (v : Value) : List Value :=
  match d with
  | some d => T.set d v
  | none => T

def tmpOf : Operand → Option Tmp
  | .tmp i => some i
  | _ => none
/-- how a test ends -/
def decE (i : Option Tmp) (t : Bool) (st : St) : Bool × St :=
  match st.hs with
  | .dec d :: r => (d, { st with T := putT st.T i (.bool d), hs := r, cs := (t, d) :: st.cs })
  | .auto :: r => (t, { st with hs := r })
  | _ => (t, st)

def yieldE (arr : Array Oper) (T : List Value) (j : Nat) : Option (Option Tmp × Bool) :=
  match (arr[j]?).bind (·.dst) with
  | some d => match T[d]? with
    | some (.bool b) => some (some d, b)
    | _ => none
  | none => none
/-- is a test's value one of which nothing is known? -/
def dimE (arr : Array Oper) (T : List Value) (j : Nat) : Bool :=
  match (arr[j]?).bind (·.dst) with
  | some d => match T[d]? with
    | some (.chan _) => true
    | _ => false
  | none => false
/-- is an operation to be done? -/
def wantE (arr : Array Oper) (o : Oper) (st : St) : Bool × St :=
  match o.guard with
  | none => (true, st)
  | some (j, want) => match yieldE arr st.T j with
    | some (d, b) => let (c, st) := decE d b st; (c == want, st)
    | none => (false, if dimE arr st.T j = true then { st with cs := (true, false) :: st.cs } else st)

def targetE (P : Program) (T : List Value) (o : Oper) : Option (FuncId × List Value) :=
  match o.op with
  | .call { callee := .value f, args, .. } =>
    match opd T f, opds T args.toList with
    | some (.func (.func g) first captured), some as => match P.funcs[g]? with
      | some fn => if fn.body.isSome then some (g, first.toList ++ as ++ captured.toList) else none
      | none => none
    | _, _ => none
  | _ => none

def resultE (P : Program) (H : Heap) (T : List Value) : ResultVar → Option Value
  | .tmp t => some (T.getD t undef)
  | .cell a t => loadE P H t (T.getD a undef)
def resultsE (P : Program) (H : Heap) (T : List Value) : List ResultVar → Option (List Value)
  | [] => some []
  | r :: rs => match resultE P H T r, resultsE P H T rs with
    | some v, some vs => some (v :: vs)
    | _, _ => none
def retE (P : Program) (fn : Func) (H : Heap) (T : List Value) : Option Value :=
  match resultsE P H T fn.results.toList with
  | some [v] => some v
  | some vs => some (.tuple vs.toArray)
  | none => none

/-- a pointer at what nobody writes -/
def oldPtr (ro : Nat → Bool) (n0 : Nat) : Value → Bool
  | .pointer (some ⟨l, _, none⟩) => decide (l < n0) && ro l
  | _ => false
/-- an operation that only reckons, or reads what nobody writes -/
def quietE (ro : Nat → Bool) (n0 : Nat) (T : List Value) (o : Oper) : Bool :=
  match o.op with
  | .move _ | .assign _ | .pick .. | .build .. | .nilCheck _ | .unOp .. | .sliceToArrayPointer .. | .makeInterface .. | .slice .. | .fieldAddr .. | .field .. | .indexAddr .. | .index .. | .extract .. => true
  | .binOp _ _ x y _ => match opd T x, opd T y with
    | some (.int _ _), some (.int _ _) => true
    | some (.string _), some (.string _) => true
    | some (.bool _), some (.bool _) => true
    | some (.agg a), some (.agg b) => a.all bare && b.all bare
    | _, _ => false
  | .load _ a => match opd T a with
    | some v => oldPtr ro n0 v
    | none => false
  | .convert _ _ x => match opd T x with
    | some (.int _ _) => true
    | _ => false
  | .call { callee := .builtin b, args, .. } =>
    match b, opds T args.toList with
    | .len, some [.slice _ _ _] => true
    | .len, some [.string _] => true
    | .cap, some [_] => true
    | .min, some _ => true
    | .max, some _ => true
    | _, _ => false
  | _ => false
/-- the operations that wait for each one that bears on them, or are waited for -/
def freeE (arr : Array Oper) : List Nat := (List.range arr.size).filter fun i =>
  match arr[i]? with
  | none => false
  | some oi => (List.range arr.size).all fun j => j == i || oi.after.any (fun e => Region.binds .any e && e.on == j) || match arr[j]? with
    | some oj => oj.after.any (fun e => Region.binds .any e && e.on == i) || oi.apart arr oj
    | none => true
def takeE (ro : Nat → Bool) (n0 : Nat) (arr : Array Oper) (fr : List Nat) (st : St) (i : Nat) : Bool :=
  fr.contains i && match arr[i]? with
    | some o => !(wantE arr o st).1 || quietE ro n0 st.T o
    | none => false
def popDirty : List Hint → List Nat × List Hint
  | .dirty l :: r => (l, r)
  | hs => ([], hs)
def roE (ro : Nat → Bool) (n : Nat) (dl : List Nat) (l : Nat) : Bool := ro l || (decide (l < n) && !dl.contains l)

/-- the same value, but for the labels' names? -/
def likeV (f : Nat → Nat) : Nat → Value → Value → Bool
  | 0, _, _ => false
  | n + 1, v, w =>
    match v, w with
    | .bool a, .bool b => a == b
    | .int k a, .int j b => k == j && decide (a = b)
    | .float k a, .float j b => k == j && a == b
    | .string a, .string b => a.data.toList == b.data.toList
    | .pointer none, .pointer none => true
    | .pointer (some a), .pointer (some b) => f a.block == b.block && a.off == b.off && a.spot == b.spot
    | .slice none n c, .slice none m d => n == m && c == d
    | .slice (some a) n c, .slice (some b) m d => f a.block == b.block && a.off == b.off && a.spot == b.spot && n == m && c == d
    | .map none, .map none => true
    | .map (some a), .map (some b) => f a == b
    | .chan a, .chan b => a == b
    | .func g a c, .func h b d => g == h && a.size == b.size && c.size == d.size && (a.toList.zip b.toList).all (fun p => likeV f n p.1 p.2) && (c.toList.zip d.toList).all (fun p => likeV f n p.1 p.2)
    | .nilFunc, .nilFunc => true
    | .iface t a, .iface u b => t == u && likeV f n a b
    | .nilIface, .nilIface => true
    | .agg a, .agg b => a.size == b.size && (a.toList.zip b.toList).all (fun p => likeV f n p.1 p.2)
    | .tuple a, .tuple b => a.size == b.size && (a.toList.zip b.toList).all (fun p => likeV f n p.1 p.2)
    | _, _ => false
def likeVs (f : Nat → Nat) (l m : List Value) : Bool := l.length == m.length && (l.zip m).all (fun p => likeV f 100 p.1 p.2)
def likeO (f : Nat → Nat) (a b : Option Obj) : Bool :=
  match a, b with
  | none, _ => true
  | some (.cells c _ z), some (.cells d _ y) => likeVs f c.toList d.toList && z == y
  | some (.map es k), some (.map fs j) => es.size == fs.size && k == j && (es.toList.zip fs.toList).all (fun p => p.1.born == p.2.born && likeV f 100 p.1.key p.2.key && likeV f 100 p.1.val p.2.val)
  | some (.mapIter none s e l), some (.mapIter none s2 e2 l2) => s == s2 && e == e2 && l == l2
  | some (.mapIter (some m) s e l), some (.mapIter (some m2) s2 e2 l2) => f m == m2 && s == s2 && e == e2 && l == l2
  | some (.stringIter s k), some (.stringIter t j) => s.data.toList == t.data.toList && k == j
  | _, _ => false
/-- a list as a function; what it does not name stays -/
def nameE (l : List Nat) (i : Nat) : Nat := l.getD i i
/-- the labels from n1 on by other names: the list l tells them, the list k tells them back -/
def likeL (ro : Nat → Bool) (n1 : Nat) (l k : List Nat) (s t : St) : Bool :=
  likeVs (nameE l) s.T t.T && s.H.length == t.H.length && l.length == s.H.length && s.hs == t.hs && s.cs == t.cs &&
  (List.range s.H.length).all fun i => decide (nameE l i < s.H.length) && nameE k (nameE l i) == i && (decide (n1 ≤ i) || nameE l i == i) && (!ro (nameE l i) || ro i) && likeO (nameE l) (s.H.getD i none) (t.H.getD (nameE l i) none)
def turnL (n1 m r : Nat) : List Nat := List.range n1 ++ (List.range m).map fun i => n1 + (i + r) % m
def likeSt (ro : Nat → Bool) (n1 : Nat) (s t : St) : Bool :=
  let m := s.H.length - n1
  (List.range (m + 1)).any fun r => likeL ro n1 (turnL n1 m r) (turnL n1 m (m - r)) s t
/-- what each order gives, if it is the same -/
def allSame (ro : Nat → Bool) (n1 : Nat) : List (Option (X × St)) → Option (X × St)
  | some (.normal, s) :: rs => if rs.all (fun q => match q with | some (.normal, t) => likeSt ro n1 s t | _ => false) = true then some (.normal, s) else none
  | _ => none
/-- one operation of a region that draws its order, whatever it is, and what follows -/
def stepD (P : Program) (ro : Nat → Bool) (rec : Job → St → Option (X × St)) (n0 : Nat) (arr : Array Oper) (fr : List Nat) (k : Nat) (listed : Array Bool) (st : St) (i : Nat) : Option (X × St) :=
  match arr[i]? with
  | some o =>
    let (c, st) := wantE arr o st
    if c then
      match targetE P st.T o with
      | some (f, args) => match rec (.call f args) st with
        | some (.val v, st1) => rec (.draw n0 arr fr k (listed.setIfInBounds i true)) { st1 with T := putT st.T o.dst v }
        | _ => none
      | none => match opE P ro st.T st.H o with
        | some (v, H') => rec (.draw n0 arr fr k (listed.setIfInBounds i true)) { st with T := putT st.T o.dst v, H := H' }
        | none => none
    else rec (.draw n0 arr fr k (listed.setIfInBounds i true)) { st with T := putT st.T o.dst undef }
  | none => none

/-- a run, so many steps deep -/
def ev (P : Program) (ro : Nat → Bool) : Nat → Job → St → Option (X × St)
  | 0, _, _ => none
  | n + 1, .code c, st =>
    match c with
    | .skip => some (.normal, st)
    | .label _ => some (.normal, st)
    | .region _ ops false => ev P ro n (.ops ops ops.toList) st
    | .region _ ops true =>
      if Region.noSelect ops = true then
        ev P (roE ro st.H.length (popDirty st.hs).1) n (.draw st.H.length ops (freeE ops) ops.size (Array.replicate ops.size false)) { st with hs := (popDirty st.hs).2 }
      else none
    | .seq a b => match ev P ro n (.code a) st with
      | some (.normal, st) => ev P ro n (.code b) st
      | r => r
    | .cond c a b => match opd st.T c with
      | some (.bool t) =>
        let (d, st) := decE (tmpOf c) t st
        ev P ro n (.code (if d then a else b)) st
      | _ => none
    | .block id b => match ev P ro n (.code b) st with
      | some (.exit k, st) => if k = id then some (.normal, st) else some (.exit k, st)
      | r => r
    | .loop b => ev P ro n (.loop b) st
    | .exit id => some (.exit id, st)
    | .goto l => some (.goto l, st)
    | .ret => some (.ret, st)
    | .scope b => ev P ro n (.scope b b) st
    | .rangeFunc .. => none
    | .refuse _ => none
  | n + 1, .loop b, st => match ev P ro n (.code b) st with
    | some (.normal, st) => ev P ro n (.loop b) st
    | r => r
  | n + 1, .scope b c, st => match ev P ro n (.code c) st with
    | some (.goto l, st) => match findLabel b l with
      | some rest => ev P ro n (.scope b rest) st
      | none => some (.goto l, st)
    | r => r
  | n + 1, .ops arr [], st => some (.normal, st)
  | n + 1, .ops arr (o :: rest), st =>
    let (c, st) := wantE arr o st
    if c then
      match targetE P st.T o with
      | some (f, args) => match ev P ro n (.call f args) st with
        | some (.val v, st1) => ev P ro n (.ops arr rest) { st1 with T := putT st.T o.dst v }
        | _ => none
      | none => match opE P ro st.T st.H o with
        | some (v, H') => ev P ro n (.ops arr rest) { st with T := putT st.T o.dst v, H := H' }
        | none => none
    else ev P ro n (.ops arr rest) { st with T := putT st.T o.dst undef }
  | n + 1, .draw n0 arr fr k listed, st =>
    match Region.ready .any arr listed, k with
    | [], _ => some (.normal, st)
    | _ :: _, 0 => none
    | i0 :: rs, k + 1 =>
      match (i0 :: rs).find? (takeE ro n0 arr fr st) with
      | some i => match arr[i]? with
        | some o =>
          let (c, st) := wantE arr o st
          if c then
            if quietE ro n0 st.T o = true then
              match opE P ro st.T st.H o with
              | some (v, _) => ev P ro n (.draw n0 arr fr k (listed.setIfInBounds i true)) { st with T := putT st.T o.dst v }
              | none => none
            else none
          else ev P ro n (.draw n0 arr fr k (listed.setIfInBounds i true)) { st with T := putT st.T o.dst undef }
        | none => none
      | none => match rs with
        | [] => stepD P ro (fun j s => ev P ro n j s) n0 arr fr k listed st i0
        | _ :: _ => allSame ro st.H.length ((i0 :: rs).map fun i => stepD P ro (fun j s => ev P ro n j s) n0 arr fr k listed st i)
  | n + 1, .call f args, st => match P.funcs[f]? with
    | some fn => match fn.body with
      | some c => match ev P ro n (.code c) { st with T := args ++ List.replicate (fn.ntmps - args.length) undef } with
        | some (.normal, st1) => match retE P fn st1.H st1.T with
          | some v => some (.val v, st1)
          | none => none
        | some (.ret, st1) => match retE P fn st1.H st1.T with
          | some v => some (.val v, st1)
          | none => none
        | _ => none
      | none => none
    | none => none
end Go.Proofs.YtjldcblklbikaaaZev
end
