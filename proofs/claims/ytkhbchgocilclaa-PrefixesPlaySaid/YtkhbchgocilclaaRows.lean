/-
  No cell of these rows narrows 'for every input' (looked for: loops, veiled, ifaces, maps, wideKeys, modest, calm, conditions, laid).
  DERIVED. THE GIVEN ROWS OF THIS SEAT. 3 by the template 'for every input the law returns true; each argument reads behind the call as it read before'; 0 by the template 'total and deterministic' (their statements: YtkhbchgocilclaaTotals.lean).
  GIVEN WITH THE SEED: the statements are not yours to turn. If you find one false, say at which input.
  Laid BY PROGRAM, IN A SANDBOX (cutbox-rows.mjs): the forced cells as the released guide's own fill.sh prints them over the translation f604a51a42d0fd36… (all of the seat's roots in one cut). By AI agents, Wed Nov 11 2026. No macro, syntax, notation, axiom, sorry.
-/
import Derived.Test.YtkhbchgocilclaaChecked
import GoSem.Claim
import GoSem.ClaimJoined
import GoSem.ClaimMapViews
import Derived.JoinedTies
import Derived.KernelRfl
namespace Go.Proofs.Ytkhbchgocilclaa
/- THE CELL 'sum', in the pinned program and in every row, IS THE sha256 OF THE DUMP (.gsa) THAT YtkhbchgocilclaaProg.lean LOADS. Nothing in Lean hashes anything: it is a label: what it is worth is what the hold of that sum in a sandbox is worth. -/
noncomputable def Try.pinned : Pinned := { name := "ytkhbchgocilclaa", sum := "f604a51a42d0fd36f69c05803d999f181c1be4ccca4e6009be148d63779eb4ff", checked := Try.checked }
namespace Rows
def none {H : Type} : Left H := { results := [], args := [] }

/-- 'sojournerlaw20.PrefixesHold': WHATEVER THE INPUT: true; the input reads as it did. -/
def prefixesHoldSpec : ChangeSpec := { name := "prefixesHold", fn := fun _ => fun
  | [d1, d2, d3] => { results := [.lit (.bool true)], args := [d1, d2, d3] }
  | _ => none }
def prefixesHoldRow : OpenClaim := { program := "ytkhbchgocilclaa", sum := "f604a51a42d0fd36f69c05803d999f181c1be4ccca4e6009be148d63779eb4ff", func := "sojourner/sojournerlaw20.PrefixesHold", spec := "prefixesHold", plainKeys := false, apart := false }
def PrefixesHoldSaid : Prop := prefixesHoldRow.holds Try.pinned (OpenSpec.ofChange prefixesHoldSpec)

/-- ITS FALSE NEIGHBOUR: 'it returns false'. Refute it at one input. -/
def prefixesHoldWrong : ChangeSpec := { name := "prefixesHold", fn := fun _ => fun
  | [d1, d2, d3] => { results := [.lit (.bool false)], args := [d1, d2, d3] }
  | _ => none }
def PrefixesHoldWrongFalsely : Prop := prefixesHoldRow.holds Try.pinned (OpenSpec.ofChange prefixesHoldWrong)

/-- 'sojournerlaw20.PrefixesBound': WHATEVER THE INPUT: true; the input reads as it did. -/
def prefixesBoundSpec : ChangeSpec := { name := "prefixesBound", fn := fun _ => fun
  | [d] => { results := [.lit (.bool true)], args := [d] }
  | _ => none }
def prefixesBoundRow : OpenClaim := { program := "ytkhbchgocilclaa", sum := "f604a51a42d0fd36f69c05803d999f181c1be4ccca4e6009be148d63779eb4ff", func := "sojourner/sojournerlaw20.PrefixesBound", spec := "prefixesBound", inPlace := ["internal/bytealg.Compare"], unfollowed := true, recurses := true, plainKeys := false, apart := false }
def PrefixesBoundSaid : Prop := prefixesBoundRow.holds Try.pinned (OpenSpec.ofChange prefixesBoundSpec)

/-- ITS FALSE NEIGHBOUR: 'it returns false'. Refute it at one input. -/
def prefixesBoundWrong : ChangeSpec := { name := "prefixesBound", fn := fun _ => fun
  | [d] => { results := [.lit (.bool false)], args := [d] }
  | _ => none }
def PrefixesBoundWrongFalsely : Prop := prefixesBoundRow.holds Try.pinned (OpenSpec.ofChange prefixesBoundWrong)

/-- 'sojournerlaw20.PrefixesPlay': WHATEVER THE INPUT: true; the input reads as it did. -/
def prefixesPlaySpec : ChangeSpec := { name := "prefixesPlay", fn := fun _ => fun
  | [d1, d2, d3] => { results := [.lit (.bool true)], args := [d1, d2, d3] }
  | _ => none }
def prefixesPlayRow : OpenClaim := { program := "ytkhbchgocilclaa", sum := "f604a51a42d0fd36f69c05803d999f181c1be4ccca4e6009be148d63779eb4ff", func := "sojourner/sojournerlaw20.PrefixesPlay", spec := "prefixesPlay", inPlace := ["internal/bytealg.Compare"], unfollowed := true, recurses := true, plainKeys := false, apart := false }
def PrefixesPlaySaid : Prop := prefixesPlayRow.holds Try.pinned (OpenSpec.ofChange prefixesPlaySpec)

/-- ITS FALSE NEIGHBOUR: 'it returns false'. Refute it at one input. -/
def prefixesPlayWrong : ChangeSpec := { name := "prefixesPlay", fn := fun _ => fun
  | [d1, d2, d3] => { results := [.lit (.bool false)], args := [d1, d2, d3] }
  | _ => none }
def PrefixesPlayWrongFalsely : Prop := prefixesPlayRow.holds Try.pinned (OpenSpec.ofChange prefixesPlayWrong)

/- THE SECOND FORM. 'bulk': how many values and letters a reading holds, each counted each time it is reached (what is shared counts as often as it is met; a slice's spare places count too). A statement '..UptoSaid' is the law's where the arguments, and the package variables that the reading takes, are together of bulk at most 1048576: NARROWER than '..Said'. Prove '..Said' where nothing that the law and all that it calls make is longer than what came in: it says more and counts as full. Else prove '..UptoSaid'. A law counts once. -/
mutual
def uptoBulk {H : Type} : DataW H → Nat
  | .lit (.string bytes) => bytes.length + 1
  | .lit _ => 1
  | .nil => 1
  | .ptr d => uptoBulk d + 1
  | .slice elems spare => uptoBulkAll elems + uptoBulkAll spare + 1
  | .agg parts => uptoBulkAll parts + 1
  | .iface _ d => uptoBulk d + 1
  | .map entries => uptoBulkEntries entries + 1
  | .held _ => 1
def uptoBulkAll {H : Type} : List (DataW H) → Nat
  | [] => 0
  | d :: r => uptoBulk d + uptoBulkAll r
def uptoBulkEntries {H : Type} : List (Lit × DataW H) → Nat
  | [] => 0
  | x :: r => uptoBulkEntry x + uptoBulkEntries r
def uptoBulkEntry {H : Type} : Lit × DataW H → Nat
  | (.string bytes, d) => bytes.length + uptoBulk d + 1
  | (_, d) => uptoBulk d + 1
 end
def uptoSmall : (H : Type) → List (DataW H) → Bool := fun _ ds => decide (uptoBulkAll ds ≤ 1048576)
def OpenSpec.upto (s : _root_.Go.ChangeSpec) : _root_.Go.OpenSpec := { _root_.Go.OpenSpec.ofChange s with cond := some uptoSmall }

/-- 'sojournerlaw20.PrefixesHold', WHERE WHAT IT READS IS OF BULK AT MOST 1048576: true; the input reads as it did. -/
def prefixesHoldUptoRow : OpenClaim := { program := "ytkhbchgocilclaa", sum := "f604a51a42d0fd36f69c05803d999f181c1be4ccca4e6009be148d63779eb4ff", func := "sojourner/sojournerlaw20.PrefixesHold", spec := "prefixesHold", plainKeys := false, apart := false, narrowed := true }
def PrefixesHoldUptoSaid : Prop := prefixesHoldUptoRow.holds Try.pinned (OpenSpec.upto prefixesHoldSpec)

/-- 'sojournerlaw20.PrefixesBound', WHERE WHAT IT READS IS OF BULK AT MOST 1048576: true; the input reads as it did. -/
def prefixesBoundUptoRow : OpenClaim := { program := "ytkhbchgocilclaa", sum := "f604a51a42d0fd36f69c05803d999f181c1be4ccca4e6009be148d63779eb4ff", func := "sojourner/sojournerlaw20.PrefixesBound", spec := "prefixesBound", inPlace := ["internal/bytealg.Compare"], unfollowed := true, recurses := true, plainKeys := false, apart := false, narrowed := true }
def PrefixesBoundUptoSaid : Prop := prefixesBoundUptoRow.holds Try.pinned (OpenSpec.upto prefixesBoundSpec)

/-- 'sojournerlaw20.PrefixesPlay', WHERE WHAT IT READS IS OF BULK AT MOST 1048576: true; the input reads as it did. -/
def prefixesPlayUptoRow : OpenClaim := { program := "ytkhbchgocilclaa", sum := "f604a51a42d0fd36f69c05803d999f181c1be4ccca4e6009be148d63779eb4ff", func := "sojourner/sojournerlaw20.PrefixesPlay", spec := "prefixesPlay", inPlace := ["internal/bytealg.Compare"], unfollowed := true, recurses := true, plainKeys := false, apart := false, narrowed := true }
def PrefixesPlayUptoSaid : Prop := prefixesPlayUptoRow.holds Try.pinned (OpenSpec.upto prefixesPlaySpec)

end Rows
end Go.Proofs.Ytkhbchgocilclaa
