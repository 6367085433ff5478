/-
  No cell of these rows narrows 'for every input' (looked for: loops, veiled, ifaces, maps, wideKeys, modest, calm, conditions, laid).
  DERIVED. THE GIVEN ROWS OF THIS SEAT. 4 by the template 'for every input the law returns true; each argument reads behind the call as it read before'; 0 by the template 'total and deterministic' (their statements: YtbkijlffaigpiaaTotals.lean).
  GIVEN WITH THE SEED: the statements are not yours to turn. If you find one false, say at which input.
  Laid BY PROGRAM, IN A SANDBOX (cutbox-rows.mjs): the forced cells as the released guide's own fill.sh prints them over the translation 8746b97434f2f340… (all of the seat's roots in one cut). By AI agents, Wed Nov 11 2026. No macro, syntax, notation, axiom, sorry.
-/
import Derived.Test.YtbkijlffaigpiaaChecked
import GoSem.Claim
import GoSem.ClaimJoined
import GoSem.ClaimMapViews
import Derived.JoinedTies
import Derived.KernelRfl
namespace Go.Proofs.Ytbkijlffaigpiaa
/- THE CELL 'sum', in the pinned program and in every row, IS THE sha256 OF THE DUMP (.gsa) THAT YtbkijlffaigpiaaProg.lean LOADS. Nothing in Lean hashes anything: it is a label: what it is worth is what the hold of that sum in a sandbox is worth. -/
noncomputable def Try.pinned : Pinned := { name := "ytbkijlffaigpiaa", sum := "8746b97434f2f34047e56dae37e5b9fe943dd50eac058635df9cfb1fd0f5161d", checked := Try.checked }
namespace Rows
def none {H : Type} : Left H := { results := [], args := [] }

/-- 'sojournerlaw28.TcbsReset': WHATEVER THE INPUT: true; the input reads as it did. -/
def tcbsResetSpec : ChangeSpec := { name := "tcbsReset", fn := fun _ => fun
  | [d] => { results := [.lit (.bool true)], args := [d] }
  | _ => none }
def tcbsResetRow : OpenClaim := { program := "ytbkijlffaigpiaa", sum := "8746b97434f2f34047e56dae37e5b9fe943dd50eac058635df9cfb1fd0f5161d", func := "sojourner/sojournerlaw28.TcbsReset", spec := "tcbsReset", unfollowed := true, recurses := true, apart := false }
def TcbsResetSaid : Prop := tcbsResetRow.holds Try.pinned (OpenSpec.ofChange tcbsResetSpec)

/-- ITS FALSE NEIGHBOUR: 'it returns false'. Refute it at one input. -/
def tcbsResetWrong : ChangeSpec := { name := "tcbsReset", fn := fun _ => fun
  | [d] => { results := [.lit (.bool false)], args := [d] }
  | _ => none }
def TcbsResetWrongFalsely : Prop := tcbsResetRow.holds Try.pinned (OpenSpec.ofChange tcbsResetWrong)

/-- 'sojournerlaw28.TcbsSame': WHATEVER THE INPUT: true; the input reads as it did. -/
def tcbsSameSpec : ChangeSpec := { name := "tcbsSame", fn := fun _ => fun
  | [d1, d2, d3] => { results := [.lit (.bool true)], args := [d1, d2, d3] }
  | _ => none }
def tcbsSameRow : OpenClaim := { program := "ytbkijlffaigpiaa", sum := "8746b97434f2f34047e56dae37e5b9fe943dd50eac058635df9cfb1fd0f5161d", func := "sojourner/sojournerlaw28.TcbsSame", spec := "tcbsSame", unfollowed := true, recurses := true, apart := false }
def TcbsSameSaid : Prop := tcbsSameRow.holds Try.pinned (OpenSpec.ofChange tcbsSameSpec)

/-- ITS FALSE NEIGHBOUR: 'it returns false'. Refute it at one input. -/
def tcbsSameWrong : ChangeSpec := { name := "tcbsSame", fn := fun _ => fun
  | [d1, d2, d3] => { results := [.lit (.bool false)], args := [d1, d2, d3] }
  | _ => none }
def TcbsSameWrongFalsely : Prop := tcbsSameRow.holds Try.pinned (OpenSpec.ofChange tcbsSameWrong)

/-- 'sojournerlaw28.TcbsStream': WHATEVER THE INPUT: true; the input reads as it did. -/
def tcbsStreamSpec : ChangeSpec := { name := "tcbsStream", fn := fun _ => fun
  | [d1, d2, d3] => { results := [.lit (.bool true)], args := [d1, d2, d3] }
  | _ => none }
def tcbsStreamRow : OpenClaim := { program := "ytbkijlffaigpiaa", sum := "8746b97434f2f34047e56dae37e5b9fe943dd50eac058635df9cfb1fd0f5161d", func := "sojourner/sojournerlaw28.TcbsStream", spec := "tcbsStream", unfollowed := true, recurses := true, apart := false }
def TcbsStreamSaid : Prop := tcbsStreamRow.holds Try.pinned (OpenSpec.ofChange tcbsStreamSpec)

/-- ITS FALSE NEIGHBOUR: 'it returns false'. Refute it at one input. -/
def tcbsStreamWrong : ChangeSpec := { name := "tcbsStream", fn := fun _ => fun
  | [d1, d2, d3] => { results := [.lit (.bool false)], args := [d1, d2, d3] }
  | _ => none }
def TcbsStreamWrongFalsely : Prop := tcbsStreamRow.holds Try.pinned (OpenSpec.ofChange tcbsStreamWrong)

/-- 'sojournerlaw28.TcbsNone': WHATEVER THE INPUT: true; the input reads as it did. -/
def tcbsNoneSpec : ChangeSpec := { name := "tcbsNone", fn := fun _ => fun
  | [d] => { results := [.lit (.bool true)], args := [d] }
  | _ => none }
def tcbsNoneRow : OpenClaim := { program := "ytbkijlffaigpiaa", sum := "8746b97434f2f34047e56dae37e5b9fe943dd50eac058635df9cfb1fd0f5161d", func := "sojourner/sojournerlaw28.TcbsNone", spec := "tcbsNone", unfollowed := true, recurses := true, apart := false }
def TcbsNoneSaid : Prop := tcbsNoneRow.holds Try.pinned (OpenSpec.ofChange tcbsNoneSpec)

/-- ITS FALSE NEIGHBOUR: 'it returns false'. Refute it at one input. -/
def tcbsNoneWrong : ChangeSpec := { name := "tcbsNone", fn := fun _ => fun
  | [d] => { results := [.lit (.bool false)], args := [d] }
  | _ => none }
def TcbsNoneWrongFalsely : Prop := tcbsNoneRow.holds Try.pinned (OpenSpec.ofChange tcbsNoneWrong)

/- THE SECOND FORM. 'bulk': how many values and letters a reading holds, each counted each time it is reached (what is shared counts as often as it is met; a slice's spare places count too). A statement '..UptoSaid' is the law's where the arguments, and the package variables that the reading takes, are together of bulk at most 1048576: NARROWER than '..Said'. Prove '..Said' where nothing that the law and all that it calls make is longer than what came in: it says more and counts as full. Else prove '..UptoSaid'. A law counts once. -/
mutual
def uptoBulk {H : Type} : DataW H → Nat
  | .lit (.string bytes) => bytes.length + 1
  | .lit _ => 1
  | .nil => 1
  | .ptr d => uptoBulk d + 1
  | .slice elems spare => uptoBulkAll elems + uptoBulkAll spare + 1
  | .agg parts => uptoBulkAll parts + 1
  | .iface _ d => uptoBulk d + 1
  | .map entries => uptoBulkEntries entries + 1
  | .held _ => 1
def uptoBulkAll {H : Type} : List (DataW H) → Nat
  | [] => 0
  | d :: r => uptoBulk d + uptoBulkAll r
def uptoBulkEntries {H : Type} : List (Lit × DataW H) → Nat
  | [] => 0
  | x :: r => uptoBulkEntry x + uptoBulkEntries r
def uptoBulkEntry {H : Type} : Lit × DataW H → Nat
  | (.string bytes, d) => bytes.length + uptoBulk d + 1
  | (_, d) => uptoBulk d + 1
 end
def uptoSmall : (H : Type) → List (DataW H) → Bool := fun _ ds => decide (uptoBulkAll ds ≤ 1048576)
def OpenSpec.upto (s : _root_.Go.ChangeSpec) : _root_.Go.OpenSpec := { _root_.Go.OpenSpec.ofChange s with cond := some uptoSmall }

/-- 'sojournerlaw28.TcbsReset', WHERE WHAT IT READS IS OF BULK AT MOST 1048576: true; the input reads as it did. -/
def tcbsResetUptoRow : OpenClaim := { program := "ytbkijlffaigpiaa", sum := "8746b97434f2f34047e56dae37e5b9fe943dd50eac058635df9cfb1fd0f5161d", func := "sojourner/sojournerlaw28.TcbsReset", spec := "tcbsReset", unfollowed := true, recurses := true, apart := false, narrowed := true }
def TcbsResetUptoSaid : Prop := tcbsResetUptoRow.holds Try.pinned (OpenSpec.upto tcbsResetSpec)

/-- 'sojournerlaw28.TcbsSame', WHERE WHAT IT READS IS OF BULK AT MOST 1048576: true; the input reads as it did. -/
def tcbsSameUptoRow : OpenClaim := { program := "ytbkijlffaigpiaa", sum := "8746b97434f2f34047e56dae37e5b9fe943dd50eac058635df9cfb1fd0f5161d", func := "sojourner/sojournerlaw28.TcbsSame", spec := "tcbsSame", unfollowed := true, recurses := true, apart := false, narrowed := true }
def TcbsSameUptoSaid : Prop := tcbsSameUptoRow.holds Try.pinned (OpenSpec.upto tcbsSameSpec)

/-- 'sojournerlaw28.TcbsStream', WHERE WHAT IT READS IS OF BULK AT MOST 1048576: true; the input reads as it did. -/
def tcbsStreamUptoRow : OpenClaim := { program := "ytbkijlffaigpiaa", sum := "8746b97434f2f34047e56dae37e5b9fe943dd50eac058635df9cfb1fd0f5161d", func := "sojourner/sojournerlaw28.TcbsStream", spec := "tcbsStream", unfollowed := true, recurses := true, apart := false, narrowed := true }
def TcbsStreamUptoSaid : Prop := tcbsStreamUptoRow.holds Try.pinned (OpenSpec.upto tcbsStreamSpec)

/-- 'sojournerlaw28.TcbsNone', WHERE WHAT IT READS IS OF BULK AT MOST 1048576: true; the input reads as it did. -/
def tcbsNoneUptoRow : OpenClaim := { program := "ytbkijlffaigpiaa", sum := "8746b97434f2f34047e56dae37e5b9fe943dd50eac058635df9cfb1fd0f5161d", func := "sojourner/sojournerlaw28.TcbsNone", spec := "tcbsNone", unfollowed := true, recurses := true, apart := false, narrowed := true }
def TcbsNoneUptoSaid : Prop := tcbsNoneUptoRow.holds Try.pinned (OpenSpec.upto tcbsNoneSpec)

end Rows
end Go.Proofs.Ytbkijlffaigpiaa
