/-
  NARROWER THAN 'FOR EVERY INPUT', by the rows' own cells (each row's printed sentence says how): GroupsTwice: laid · GroupsDelay: laid · GroupsCount: laid.
  DERIVED. THE GIVEN ROWS OF THIS SEAT. 3 by the template 'for every input the law returns true; each argument reads behind the call as it read before'; 0 by the template 'total and deterministic' (their statements: YthbkjhacnnoolaaDoorTotals.lean).
  GIVEN WITH THE SEED: the statements are not yours to turn. If you find one false, say at which input.
  Laid BY PROGRAM, IN A SANDBOX (cutbox-rows.mjs): the forced cells as the released guide's own fill.sh prints them over the translation d3ced09a3703d992… (all of the seat's roots in one cut). By AI agents, Wed Nov 11 2026. No macro, syntax, notation, axiom, sorry.
-/
import Derived.Test.YthbkjhacnnoolaaDoorChecked
import GoSem.Claim
import GoSem.ClaimJoined
import GoSem.ClaimMapViews
import Derived.JoinedTies
import Derived.KernelRfl
namespace Go.Proofs.YthbkjhacnnoolaaDoor
/- THE CELL 'sum', in the pinned program and in every row, IS THE sha256 OF THE DUMP (.gsa) THAT YthbkjhacnnoolaaDoorProg.lean LOADS. Nothing in Lean hashes anything: it is a label: what it is worth is what the hold of that sum in a sandbox is worth. -/
noncomputable def Tryd.pinned : Pinned := { name := "ythbkjhacnnoolaadoor", sum := "d3ced09a3703d99220b856d7bee704560a69b526ca1219ff6a0cc605b84798a9", checked := Tryd.checked }
namespace Rows
def none {H : Type} : Left H := { results := [], args := [] }

/- WHAT THE LISTED PACKAGE-LEVEL VARIABLES READ AS WHEN THE CALL BEGINS. Each datum BY PROGRAM (the guide's laid-datum.mjs) off the statement by which the dump's own 'gosem.cut.vars' lays the variable. In a bare row this is a premise. The card (YthbkjhacnnoolaaDoorCards.lean) ties it to the program's text. -/
def laid_sojourner_addrs_known {H : Type} : DataW H := .agg [.agg [.lit (.int .u8 0), .lit (.int .u8 0), .lit (.int .u8 0), .lit (.int .u8 0), .lit (.int .u8 0), .lit (.int .u8 0), .lit (.int .u8 0), .lit (.int .u8 0), .lit (.int .u8 0), .lit (.int .u8 0), .lit (.int .u8 0), .lit (.int .u8 0), .lit (.int .u8 0), .lit (.int .u8 0), .lit (.int .u8 0), .lit (.int .u8 0)], .agg [.lit (.int .u8 0), .lit (.int .u8 0), .lit (.int .u8 0), .lit (.int .u8 0), .lit (.int .u8 0), .lit (.int .u8 0), .lit (.int .u8 0), .lit (.int .u8 0), .lit (.int .u8 0), .lit (.int .u8 0), .lit (.int .u8 0), .lit (.int .u8 0), .lit (.int .u8 0), .lit (.int .u8 0), .lit (.int .u8 0), .lit (.int .u8 1)], .agg [.lit (.int .u8 255), .lit (.int .u8 2), .lit (.int .u8 0), .lit (.int .u8 0), .lit (.int .u8 0), .lit (.int .u8 0), .lit (.int .u8 0), .lit (.int .u8 0), .lit (.int .u8 0), .lit (.int .u8 0), .lit (.int .u8 0), .lit (.int .u8 0), .lit (.int .u8 0), .lit (.int .u8 0), .lit (.int .u8 0), .lit (.int .u8 1)], .agg [.lit (.int .u8 255), .lit (.int .u8 2), .lit (.int .u8 0), .lit (.int .u8 0), .lit (.int .u8 0), .lit (.int .u8 0), .lit (.int .u8 0), .lit (.int .u8 0), .lit (.int .u8 0), .lit (.int .u8 0), .lit (.int .u8 0), .lit (.int .u8 0), .lit (.int .u8 0), .lit (.int .u8 0), .lit (.int .u8 0), .lit (.int .u8 2)], .agg [.lit (.int .u8 255), .lit (.int .u8 2), .lit (.int .u8 0), .lit (.int .u8 0), .lit (.int .u8 0), .lit (.int .u8 0), .lit (.int .u8 0), .lit (.int .u8 0), .lit (.int .u8 0), .lit (.int .u8 0), .lit (.int .u8 0), .lit (.int .u8 0), .lit (.int .u8 0), .lit (.int .u8 0), .lit (.int .u8 0), .lit (.int .u8 22)], .agg [.lit (.int .u8 255), .lit (.int .u8 2), .lit (.int .u8 0), .lit (.int .u8 0), .lit (.int .u8 0), .lit (.int .u8 0), .lit (.int .u8 0), .lit (.int .u8 0), .lit (.int .u8 0), .lit (.int .u8 0), .lit (.int .u8 0), .lit (.int .u8 0), .lit (.int .u8 0), .lit (.int .u8 1), .lit (.int .u8 0), .lit (.int .u8 2)], .agg [.lit (.int .u8 255), .lit (.int .u8 2), .lit (.int .u8 0), .lit (.int .u8 0), .lit (.int .u8 0), .lit (.int .u8 0), .lit (.int .u8 0), .lit (.int .u8 0), .lit (.int .u8 0), .lit (.int .u8 0), .lit (.int .u8 0), .lit (.int .u8 1), .lit (.int .u8 255), .lit (.int .u8 0), .lit (.int .u8 0), .lit (.int .u8 0)]]

/-- 'sojournerlaw24.GroupsTwice': WHATEVER THE INPUT: true; the input reads as it did. -/
def groupsTwiceSpec : ChangeSpec := { name := "groupsTwice", fn := fun _ => fun
  | [d1, d2, d3] => { results := [.lit (.bool true)], args := [d1, d2, d3] }
  | _ => none }
def groupsTwiceRow : OpenClaim := { program := "ythbkjhacnnoolaadoor", sum := "d3ced09a3703d99220b856d7bee704560a69b526ca1219ff6a0cc605b84798a9", func := "sojourner/sojournerlaw24.GroupsTwice", spec := "groupsTwice", inPlace := ["internal/bytealg.Compare"], unfollowed := true, recurses := true, named := ["sojourner/addrs.known"], plainKeys := false, apart := false, laid := [("sojourner/addrs.known", laid_sojourner_addrs_known)] }
def GroupsTwiceSaid : Prop := groupsTwiceRow.holds Tryd.pinned (OpenSpec.ofChange groupsTwiceSpec)

/-- ITS FALSE NEIGHBOUR: 'it returns false'. Refute it at one input. -/
def groupsTwiceWrong : ChangeSpec := { name := "groupsTwice", fn := fun _ => fun
  | [d1, d2, d3] => { results := [.lit (.bool false)], args := [d1, d2, d3] }
  | _ => none }
def GroupsTwiceWrongFalsely : Prop := groupsTwiceRow.holds Tryd.pinned (OpenSpec.ofChange groupsTwiceWrong)

/-- 'sojournerlaw24.GroupsDelay': WHATEVER THE INPUT: true; the input reads as it did. -/
def groupsDelaySpec : ChangeSpec := { name := "groupsDelay", fn := fun _ => fun
  | [d1, d2] => { results := [.lit (.bool true)], args := [d1, d2] }
  | _ => none }
def groupsDelayRow : OpenClaim := { program := "ythbkjhacnnoolaadoor", sum := "d3ced09a3703d99220b856d7bee704560a69b526ca1219ff6a0cc605b84798a9", func := "sojourner/sojournerlaw24.GroupsDelay", spec := "groupsDelay", inPlace := ["internal/bytealg.Compare"], unfollowed := true, recurses := true, named := ["sojourner/addrs.known"], plainKeys := false, apart := false, laid := [("sojourner/addrs.known", laid_sojourner_addrs_known)] }
def GroupsDelaySaid : Prop := groupsDelayRow.holds Tryd.pinned (OpenSpec.ofChange groupsDelaySpec)

/-- ITS FALSE NEIGHBOUR: 'it returns false'. Refute it at one input. -/
def groupsDelayWrong : ChangeSpec := { name := "groupsDelay", fn := fun _ => fun
  | [d1, d2] => { results := [.lit (.bool false)], args := [d1, d2] }
  | _ => none }
def GroupsDelayWrongFalsely : Prop := groupsDelayRow.holds Tryd.pinned (OpenSpec.ofChange groupsDelayWrong)

/-- 'sojournerlaw24.GroupsCount': WHATEVER THE INPUT: true; the input reads as it did. -/
def groupsCountSpec : ChangeSpec := { name := "groupsCount", fn := fun _ => fun
  | [d] => { results := [.lit (.bool true)], args := [d] }
  | _ => none }
def groupsCountRow : OpenClaim := { program := "ythbkjhacnnoolaadoor", sum := "d3ced09a3703d99220b856d7bee704560a69b526ca1219ff6a0cc605b84798a9", func := "sojourner/sojournerlaw24.GroupsCount", spec := "groupsCount", inPlace := ["internal/bytealg.Compare"], unfollowed := true, recurses := true, named := ["sojourner/addrs.known"], plainKeys := false, apart := false, laid := [("sojourner/addrs.known", laid_sojourner_addrs_known)] }
def GroupsCountSaid : Prop := groupsCountRow.holds Tryd.pinned (OpenSpec.ofChange groupsCountSpec)

/-- ITS FALSE NEIGHBOUR: 'it returns false'. Refute it at one input. -/
def groupsCountWrong : ChangeSpec := { name := "groupsCount", fn := fun _ => fun
  | [d] => { results := [.lit (.bool false)], args := [d] }
  | _ => none }
def GroupsCountWrongFalsely : Prop := groupsCountRow.holds Tryd.pinned (OpenSpec.ofChange groupsCountWrong)

/- THE SECOND FORM. 'bulk': how many values and letters a reading holds, each counted each time it is reached (what is shared counts as often as it is met; a slice's spare places count too). A statement '..UptoSaid' is the law's where the arguments, and the package variables that the reading takes, are together of bulk at most 1048576: NARROWER than '..Said'. Prove '..Said' where nothing that the law and all that it calls make is longer than what came in: it says more and counts as full. Else prove '..UptoSaid'. A law counts once. -/
mutual
def uptoBulk {H : Type} : DataW H → Nat
  | .lit (.string bytes) => bytes.length + 1
  | .lit _ => 1
  | .nil => 1
  | .ptr d => uptoBulk d + 1
  | .slice elems spare => uptoBulkAll elems + uptoBulkAll spare + 1
  | .agg parts => uptoBulkAll parts + 1
  | .iface _ d => uptoBulk d + 1
  | .map entries => uptoBulkEntries entries + 1
  | .held _ => 1
def uptoBulkAll {H : Type} : List (DataW H) → Nat
  | [] => 0
  | d :: r => uptoBulk d + uptoBulkAll r
def uptoBulkEntries {H : Type} : List (Lit × DataW H) → Nat
  | [] => 0
  | x :: r => uptoBulkEntry x + uptoBulkEntries r
def uptoBulkEntry {H : Type} : Lit × DataW H → Nat
  | (.string bytes, d) => bytes.length + uptoBulk d + 1
  | (_, d) => uptoBulk d + 1
 end
def uptoSmall : (H : Type) → List (DataW H) → Bool := fun _ ds => decide (uptoBulkAll ds ≤ 1048576)
def OpenSpec.upto (s : _root_.Go.ChangeSpec) : _root_.Go.OpenSpec := { _root_.Go.OpenSpec.ofChange s with cond := some uptoSmall }

/-- 'sojournerlaw24.GroupsTwice', WHERE WHAT IT READS IS OF BULK AT MOST 1048576: true; the input reads as it did. -/
def groupsTwiceUptoRow : OpenClaim := { program := "ythbkjhacnnoolaadoor", sum := "d3ced09a3703d99220b856d7bee704560a69b526ca1219ff6a0cc605b84798a9", func := "sojourner/sojournerlaw24.GroupsTwice", spec := "groupsTwice", inPlace := ["internal/bytealg.Compare"], unfollowed := true, recurses := true, named := ["sojourner/addrs.known"], plainKeys := false, apart := false, laid := [("sojourner/addrs.known", laid_sojourner_addrs_known)], narrowed := true }
def GroupsTwiceUptoSaid : Prop := groupsTwiceUptoRow.holds Tryd.pinned (OpenSpec.upto groupsTwiceSpec)

/-- 'sojournerlaw24.GroupsDelay', WHERE WHAT IT READS IS OF BULK AT MOST 1048576: true; the input reads as it did. -/
def groupsDelayUptoRow : OpenClaim := { program := "ythbkjhacnnoolaadoor", sum := "d3ced09a3703d99220b856d7bee704560a69b526ca1219ff6a0cc605b84798a9", func := "sojourner/sojournerlaw24.GroupsDelay", spec := "groupsDelay", inPlace := ["internal/bytealg.Compare"], unfollowed := true, recurses := true, named := ["sojourner/addrs.known"], plainKeys := false, apart := false, laid := [("sojourner/addrs.known", laid_sojourner_addrs_known)], narrowed := true }
def GroupsDelayUptoSaid : Prop := groupsDelayUptoRow.holds Tryd.pinned (OpenSpec.upto groupsDelaySpec)

/-- 'sojournerlaw24.GroupsCount', WHERE WHAT IT READS IS OF BULK AT MOST 1048576: true; the input reads as it did. -/
def groupsCountUptoRow : OpenClaim := { program := "ythbkjhacnnoolaadoor", sum := "d3ced09a3703d99220b856d7bee704560a69b526ca1219ff6a0cc605b84798a9", func := "sojourner/sojournerlaw24.GroupsCount", spec := "groupsCount", inPlace := ["internal/bytealg.Compare"], unfollowed := true, recurses := true, named := ["sojourner/addrs.known"], plainKeys := false, apart := false, laid := [("sojourner/addrs.known", laid_sojourner_addrs_known)], narrowed := true }
def GroupsCountUptoSaid : Prop := groupsCountUptoRow.holds Tryd.pinned (OpenSpec.upto groupsCountSpec)

end Rows
end Go.Proofs.YthbkjhacnnoolaaDoor
