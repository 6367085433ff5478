/-
  No cell of these rows narrows 'for every input' (looked for: loops, veiled, ifaces, maps, wideKeys, modest, calm, conditions, laid).
  DERIVED. THE GIVEN ROWS OF THIS SEAT. 5 by the template 'for every input the law returns true; each argument reads behind the call as it read before'; 0 by the template 'total and deterministic' (their statements: YtjldcblklbikaaaTotals.lean).
  GIVEN WITH THE SEED: the statements are not yours to turn. If you find one false, say at which input.
  Laid BY PROGRAM, IN A SANDBOX (cutbox-rows.mjs): the forced cells as the released guide's own fill.sh prints them over the translation 0bf437f5e638b3ce… (all of the seat's roots in one cut). By AI agents, Wed Nov 11 2026. No macro, syntax, notation, axiom, sorry.
-/
import Derived.Test.YtjldcblklbikaaaChecked
import GoSem.Claim
import GoSem.ClaimJoined
import GoSem.ClaimMapViews
import Derived.JoinedTies
import Derived.KernelRfl
namespace Go.Proofs.Ytjldcblklbikaaa
/- THE CELL 'sum', in the pinned program and in every row, IS THE sha256 OF THE DUMP (.gsa) THAT YtjldcblklbikaaaProg.lean LOADS. Nothing in Lean hashes anything: it is a label: what it is worth is what the hold of that sum in a sandbox is worth. -/
noncomputable def Try.pinned : Pinned := { name := "ytjldcblklbikaaa", sum := "0bf437f5e638b3ce5df32de96daf2d85d8197456f46db374aaff5e26de32983a", checked := Try.checked }
namespace Rows
def none {H : Type} : Left H := { results := [], args := [] }

/-- 'sojournerlaw13.FragsPlay': WHATEVER THE INPUT: true; the input reads as it did. -/
def fragsPlaySpec : ChangeSpec := { name := "fragsPlay", fn := fun _ => fun
  | [d] => { results := [.lit (.bool true)], args := [d] }
  | _ => none }
def fragsPlayRow : OpenClaim := { program := "ytjldcblklbikaaa", sum := "0bf437f5e638b3ce5df32de96daf2d85d8197456f46db374aaff5e26de32983a", func := "sojourner/sojournerlaw13.FragsPlay", spec := "fragsPlay", unfollowed := true, recurses := true, apart := false }
def FragsPlaySaid : Prop := fragsPlayRow.holds Try.pinned (OpenSpec.ofChange fragsPlaySpec)

/-- ITS FALSE NEIGHBOUR: 'it returns false'. Refute it at one input. -/
def fragsPlayWrong : ChangeSpec := { name := "fragsPlay", fn := fun _ => fun
  | [d] => { results := [.lit (.bool false)], args := [d] }
  | _ => none }
def FragsPlayWrongFalsely : Prop := fragsPlayRow.holds Try.pinned (OpenSpec.ofChange fragsPlayWrong)

/-- 'sojournerlaw13.FragsVoid': WHATEVER THE INPUT: true; the input reads as it did. -/
def fragsVoidSpec : ChangeSpec := { name := "fragsVoid", fn := fun _ => fun
  | [d1, d2] => { results := [.lit (.bool true)], args := [d1, d2] }
  | _ => none }
def fragsVoidRow : OpenClaim := { program := "ytjldcblklbikaaa", sum := "0bf437f5e638b3ce5df32de96daf2d85d8197456f46db374aaff5e26de32983a", func := "sojourner/sojournerlaw13.FragsVoid", spec := "fragsVoid", unfollowed := true, recurses := true, apart := false }
def FragsVoidSaid : Prop := fragsVoidRow.holds Try.pinned (OpenSpec.ofChange fragsVoidSpec)

/-- ITS FALSE NEIGHBOUR: 'it returns false'. Refute it at one input. -/
def fragsVoidWrong : ChangeSpec := { name := "fragsVoid", fn := fun _ => fun
  | [d1, d2] => { results := [.lit (.bool false)], args := [d1, d2] }
  | _ => none }
def FragsVoidWrongFalsely : Prop := fragsVoidRow.holds Try.pinned (OpenSpec.ofChange fragsVoidWrong)

/-- 'sojournerlaw13.FragsWhole': WHATEVER THE INPUT: true; the input reads as it did. -/
def fragsWholeSpec : ChangeSpec := { name := "fragsWhole", fn := fun _ => fun
  | [d1, d2, d3] => { results := [.lit (.bool true)], args := [d1, d2, d3] }
  | _ => none }
def fragsWholeRow : OpenClaim := { program := "ytjldcblklbikaaa", sum := "0bf437f5e638b3ce5df32de96daf2d85d8197456f46db374aaff5e26de32983a", func := "sojourner/sojournerlaw13.FragsWhole", spec := "fragsWhole", unfollowed := true, recurses := true, apart := false }
def FragsWholeSaid : Prop := fragsWholeRow.holds Try.pinned (OpenSpec.ofChange fragsWholeSpec)

/-- ITS FALSE NEIGHBOUR: 'it returns false'. Refute it at one input. -/
def fragsWholeWrong : ChangeSpec := { name := "fragsWhole", fn := fun _ => fun
  | [d1, d2, d3] => { results := [.lit (.bool false)], args := [d1, d2, d3] }
  | _ => none }
def FragsWholeWrongFalsely : Prop := fragsWholeRow.holds Try.pinned (OpenSpec.ofChange fragsWholeWrong)

/-- 'sojournerlaw13.FragsOverlap': WHATEVER THE INPUT: true; the input reads as it did. -/
def fragsOverlapSpec : ChangeSpec := { name := "fragsOverlap", fn := fun _ => fun
  | [d1, d2, d3] => { results := [.lit (.bool true)], args := [d1, d2, d3] }
  | _ => none }
def fragsOverlapRow : OpenClaim := { program := "ytjldcblklbikaaa", sum := "0bf437f5e638b3ce5df32de96daf2d85d8197456f46db374aaff5e26de32983a", func := "sojourner/sojournerlaw13.FragsOverlap", spec := "fragsOverlap", unfollowed := true, recurses := true, apart := false }
def FragsOverlapSaid : Prop := fragsOverlapRow.holds Try.pinned (OpenSpec.ofChange fragsOverlapSpec)

/-- ITS FALSE NEIGHBOUR: 'it returns false'. Refute it at one input. -/
def fragsOverlapWrong : ChangeSpec := { name := "fragsOverlap", fn := fun _ => fun
  | [d1, d2, d3] => { results := [.lit (.bool false)], args := [d1, d2, d3] }
  | _ => none }
def FragsOverlapWrongFalsely : Prop := fragsOverlapRow.holds Try.pinned (OpenSpec.ofChange fragsOverlapWrong)

/-- 'sojournerlaw13.FragsMany': WHATEVER THE INPUT: true; the input reads as it did. -/
def fragsManySpec : ChangeSpec := { name := "fragsMany", fn := fun _ => fun
  | [d1, d2] => { results := [.lit (.bool true)], args := [d1, d2] }
  | _ => none }
def fragsManyRow : OpenClaim := { program := "ytjldcblklbikaaa", sum := "0bf437f5e638b3ce5df32de96daf2d85d8197456f46db374aaff5e26de32983a", func := "sojourner/sojournerlaw13.FragsMany", spec := "fragsMany", unfollowed := true, recurses := true, apart := false }
def FragsManySaid : Prop := fragsManyRow.holds Try.pinned (OpenSpec.ofChange fragsManySpec)

/-- ITS FALSE NEIGHBOUR: 'it returns false'. Refute it at one input. -/
def fragsManyWrong : ChangeSpec := { name := "fragsMany", fn := fun _ => fun
  | [d1, d2] => { results := [.lit (.bool false)], args := [d1, d2] }
  | _ => none }
def FragsManyWrongFalsely : Prop := fragsManyRow.holds Try.pinned (OpenSpec.ofChange fragsManyWrong)

/- THE SECOND FORM. 'bulk': how many values and letters a reading holds, each counted each time it is reached (what is shared counts as often as it is met; a slice's spare places count too). A statement '..UptoSaid' is the law's where the arguments, and the package variables that the reading takes, are together of bulk at most 1048576: NARROWER than '..Said'. Prove '..Said' where nothing that the law and all that it calls make is longer than what came in: it says more and counts as full. Else prove '..UptoSaid'. A law counts once. -/
mutual
def uptoBulk {H : Type} : DataW H → Nat
  | .lit (.string bytes) => bytes.length + 1
  | .lit _ => 1
  | .nil => 1
  | .ptr d => uptoBulk d + 1
  | .slice elems spare => uptoBulkAll elems + uptoBulkAll spare + 1
  | .agg parts => uptoBulkAll parts + 1
  | .iface _ d => uptoBulk d + 1
  | .map entries => uptoBulkEntries entries + 1
  | .held _ => 1
def uptoBulkAll {H : Type} : List (DataW H) → Nat
  | [] => 0
  | d :: r => uptoBulk d + uptoBulkAll r
def uptoBulkEntries {H : Type} : List (Lit × DataW H) → Nat
  | [] => 0
  | x :: r => uptoBulkEntry x + uptoBulkEntries r
def uptoBulkEntry {H : Type} : Lit × DataW H → Nat
  | (.string bytes, d) => bytes.length + uptoBulk d + 1
  | (_, d) => uptoBulk d + 1
 end
def uptoSmall : (H : Type) → List (DataW H) → Bool := fun _ ds => decide (uptoBulkAll ds ≤ 1048576)
def OpenSpec.upto (s : _root_.Go.ChangeSpec) : _root_.Go.OpenSpec := { _root_.Go.OpenSpec.ofChange s with cond := some uptoSmall }

/-- 'sojournerlaw13.FragsPlay', WHERE WHAT IT READS IS OF BULK AT MOST 1048576: true; the input reads as it did. -/
def fragsPlayUptoRow : OpenClaim := { program := "ytjldcblklbikaaa", sum := "0bf437f5e638b3ce5df32de96daf2d85d8197456f46db374aaff5e26de32983a", func := "sojourner/sojournerlaw13.FragsPlay", spec := "fragsPlay", unfollowed := true, recurses := true, apart := false, narrowed := true }
def FragsPlayUptoSaid : Prop := fragsPlayUptoRow.holds Try.pinned (OpenSpec.upto fragsPlaySpec)

/-- 'sojournerlaw13.FragsVoid', WHERE WHAT IT READS IS OF BULK AT MOST 1048576: true; the input reads as it did. -/
def fragsVoidUptoRow : OpenClaim := { program := "ytjldcblklbikaaa", sum := "0bf437f5e638b3ce5df32de96daf2d85d8197456f46db374aaff5e26de32983a", func := "sojourner/sojournerlaw13.FragsVoid", spec := "fragsVoid", unfollowed := true, recurses := true, apart := false, narrowed := true }
def FragsVoidUptoSaid : Prop := fragsVoidUptoRow.holds Try.pinned (OpenSpec.upto fragsVoidSpec)

/-- 'sojournerlaw13.FragsWhole', WHERE WHAT IT READS IS OF BULK AT MOST 1048576: true; the input reads as it did. -/
def fragsWholeUptoRow : OpenClaim := { program := "ytjldcblklbikaaa", sum := "0bf437f5e638b3ce5df32de96daf2d85d8197456f46db374aaff5e26de32983a", func := "sojourner/sojournerlaw13.FragsWhole", spec := "fragsWhole", unfollowed := true, recurses := true, apart := false, narrowed := true }
def FragsWholeUptoSaid : Prop := fragsWholeUptoRow.holds Try.pinned (OpenSpec.upto fragsWholeSpec)

/-- 'sojournerlaw13.FragsOverlap', WHERE WHAT IT READS IS OF BULK AT MOST 1048576: true; the input reads as it did. -/
def fragsOverlapUptoRow : OpenClaim := { program := "ytjldcblklbikaaa", sum := "0bf437f5e638b3ce5df32de96daf2d85d8197456f46db374aaff5e26de32983a", func := "sojourner/sojournerlaw13.FragsOverlap", spec := "fragsOverlap", unfollowed := true, recurses := true, apart := false, narrowed := true }
def FragsOverlapUptoSaid : Prop := fragsOverlapUptoRow.holds Try.pinned (OpenSpec.upto fragsOverlapSpec)

/-- 'sojournerlaw13.FragsMany', WHERE WHAT IT READS IS OF BULK AT MOST 1048576: true; the input reads as it did. -/
def fragsManyUptoRow : OpenClaim := { program := "ytjldcblklbikaaa", sum := "0bf437f5e638b3ce5df32de96daf2d85d8197456f46db374aaff5e26de32983a", func := "sojourner/sojournerlaw13.FragsMany", spec := "fragsMany", unfollowed := true, recurses := true, apart := false, narrowed := true }
def FragsManyUptoSaid : Prop := fragsManyUptoRow.holds Try.pinned (OpenSpec.upto fragsManySpec)

end Rows
end Go.Proofs.Ytjldcblklbikaaa
