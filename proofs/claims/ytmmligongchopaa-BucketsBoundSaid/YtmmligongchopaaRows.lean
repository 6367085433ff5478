/-
  No cell of these rows narrows 'for every input' (looked for: loops, veiled, ifaces, maps, wideKeys, modest, calm, conditions, laid).
  DERIVED. THE GIVEN ROWS OF THIS SEAT. 5 by the template 'for every input the law returns true; each argument reads behind the call as it read before'; 0 by the template 'total and deterministic' (their statements: YtmmligongchopaaTotals.lean).
  GIVEN WITH THE SEED: the statements are not yours to turn. If you find one false, say at which input.
  Laid BY PROGRAM, IN A SANDBOX (cutbox-rows.mjs): the forced cells as the released guide's own fill.sh prints them over the translation e854dca4bde4c50d… (all of the seat's roots in one cut). By AI agents, Wed Nov 11 2026. No macro, syntax, notation, axiom, sorry.
-/
import Derived.Test.YtmmligongchopaaChecked
import GoSem.Claim
import GoSem.ClaimJoined
import GoSem.ClaimMapViews
import Derived.JoinedTies
import Derived.KernelRfl
namespace Go.Proofs.Ytmmligongchopaa
/- THE CELL 'sum', in the pinned program and in every row, IS THE sha256 OF THE DUMP (.gsa) THAT YtmmligongchopaaProg.lean LOADS. Nothing in Lean hashes anything: it is a label: what it is worth is what the hold of that sum in a sandbox is worth. -/
noncomputable def Try.pinned : Pinned := { name := "ytmmligongchopaa", sum := "e854dca4bde4c50dca063de493782623843cdb54c59a36be7451c3fee540f48c", checked := Try.checked }
namespace Rows
def none {H : Type} : Left H := { results := [], args := [] }

/-- 'sojournerlaw14.BucketsTake': WHATEVER THE INPUT: true; the input reads as it did. -/
def bucketsTakeSpec : ChangeSpec := { name := "bucketsTake", fn := fun _ => fun
  | [d1, d2] => { results := [.lit (.bool true)], args := [d1, d2] }
  | _ => none }
def bucketsTakeRow : OpenClaim := { program := "ytmmligongchopaa", sum := "e854dca4bde4c50dca063de493782623843cdb54c59a36be7451c3fee540f48c", func := "sojourner/sojournerlaw14.BucketsTake", spec := "bucketsTake", unfollowed := true, recurses := true, apart := false }
def BucketsTakeSaid : Prop := bucketsTakeRow.holds Try.pinned (OpenSpec.ofChange bucketsTakeSpec)

/-- ITS FALSE NEIGHBOUR: 'it returns false'. Refute it at one input. -/
def bucketsTakeWrong : ChangeSpec := { name := "bucketsTake", fn := fun _ => fun
  | [d1, d2] => { results := [.lit (.bool false)], args := [d1, d2] }
  | _ => none }
def BucketsTakeWrongFalsely : Prop := bucketsTakeRow.holds Try.pinned (OpenSpec.ofChange bucketsTakeWrong)

/-- 'sojournerlaw14.BucketsVoid': WHATEVER THE INPUT: true; the input reads as it did. -/
def bucketsVoidSpec : ChangeSpec := { name := "bucketsVoid", fn := fun _ => fun
  | [d] => { results := [.lit (.bool true)], args := [d] }
  | _ => none }
def bucketsVoidRow : OpenClaim := { program := "ytmmligongchopaa", sum := "e854dca4bde4c50dca063de493782623843cdb54c59a36be7451c3fee540f48c", func := "sojourner/sojournerlaw14.BucketsVoid", spec := "bucketsVoid", unfollowed := true, recurses := true, apart := false }
def BucketsVoidSaid : Prop := bucketsVoidRow.holds Try.pinned (OpenSpec.ofChange bucketsVoidSpec)

/-- ITS FALSE NEIGHBOUR: 'it returns false'. Refute it at one input. -/
def bucketsVoidWrong : ChangeSpec := { name := "bucketsVoid", fn := fun _ => fun
  | [d] => { results := [.lit (.bool false)], args := [d] }
  | _ => none }
def BucketsVoidWrongFalsely : Prop := bucketsVoidRow.holds Try.pinned (OpenSpec.ofChange bucketsVoidWrong)

/-- 'sojournerlaw14.BucketsBound': WHATEVER THE INPUT: true; the input reads as it did. -/
def bucketsBoundSpec : ChangeSpec := { name := "bucketsBound", fn := fun _ => fun
  | [d1, d2, d3] => { results := [.lit (.bool true)], args := [d1, d2, d3] }
  | _ => none }
def bucketsBoundRow : OpenClaim := { program := "ytmmligongchopaa", sum := "e854dca4bde4c50dca063de493782623843cdb54c59a36be7451c3fee540f48c", func := "sojourner/sojournerlaw14.BucketsBound", spec := "bucketsBound", unfollowed := true, recurses := true, apart := false }
def BucketsBoundSaid : Prop := bucketsBoundRow.holds Try.pinned (OpenSpec.ofChange bucketsBoundSpec)

/-- ITS FALSE NEIGHBOUR: 'it returns false'. Refute it at one input. -/
def bucketsBoundWrong : ChangeSpec := { name := "bucketsBound", fn := fun _ => fun
  | [d1, d2, d3] => { results := [.lit (.bool false)], args := [d1, d2, d3] }
  | _ => none }
def BucketsBoundWrongFalsely : Prop := bucketsBoundRow.holds Try.pinned (OpenSpec.ofChange bucketsBoundWrong)

/-- 'sojournerlaw14.BucketsEven': WHATEVER THE INPUT: true; the input reads as it did. -/
def bucketsEvenSpec : ChangeSpec := { name := "bucketsEven", fn := fun _ => fun
  | [d1, d2, d3] => { results := [.lit (.bool true)], args := [d1, d2, d3] }
  | _ => none }
def bucketsEvenRow : OpenClaim := { program := "ytmmligongchopaa", sum := "e854dca4bde4c50dca063de493782623843cdb54c59a36be7451c3fee540f48c", func := "sojourner/sojournerlaw14.BucketsEven", spec := "bucketsEven", unfollowed := true, recurses := true, apart := false }
def BucketsEvenSaid : Prop := bucketsEvenRow.holds Try.pinned (OpenSpec.ofChange bucketsEvenSpec)

/-- ITS FALSE NEIGHBOUR: 'it returns false'. Refute it at one input. -/
def bucketsEvenWrong : ChangeSpec := { name := "bucketsEven", fn := fun _ => fun
  | [d1, d2, d3] => { results := [.lit (.bool false)], args := [d1, d2, d3] }
  | _ => none }
def BucketsEvenWrongFalsely : Prop := bucketsEvenRow.holds Try.pinned (OpenSpec.ofChange bucketsEvenWrong)

/-- 'sojournerlaw14.BucketsBack': WHATEVER THE INPUT: true; the input reads as it did. -/
def bucketsBackSpec : ChangeSpec := { name := "bucketsBack", fn := fun _ => fun
  | [d1, d2, d3] => { results := [.lit (.bool true)], args := [d1, d2, d3] }
  | _ => none }
def bucketsBackRow : OpenClaim := { program := "ytmmligongchopaa", sum := "e854dca4bde4c50dca063de493782623843cdb54c59a36be7451c3fee540f48c", func := "sojourner/sojournerlaw14.BucketsBack", spec := "bucketsBack", unfollowed := true, recurses := true, apart := false }
def BucketsBackSaid : Prop := bucketsBackRow.holds Try.pinned (OpenSpec.ofChange bucketsBackSpec)

/-- ITS FALSE NEIGHBOUR: 'it returns false'. Refute it at one input. -/
def bucketsBackWrong : ChangeSpec := { name := "bucketsBack", fn := fun _ => fun
  | [d1, d2, d3] => { results := [.lit (.bool false)], args := [d1, d2, d3] }
  | _ => none }
def BucketsBackWrongFalsely : Prop := bucketsBackRow.holds Try.pinned (OpenSpec.ofChange bucketsBackWrong)

/- THE SECOND FORM. 'bulk': how many values and letters a reading holds, each counted each time it is reached (what is shared counts as often as it is met; a slice's spare places count too). A statement '..UptoSaid' is the law's where the arguments, and the package variables that the reading takes, are together of bulk at most 1048576: NARROWER than '..Said'. Prove '..Said' where nothing that the law and all that it calls make is longer than what came in: it says more and counts as full. Else prove '..UptoSaid'. A law counts once. -/
mutual
def uptoBulk {H : Type} : DataW H → Nat
  | .lit (.string bytes) => bytes.length + 1
  | .lit _ => 1
  | .nil => 1
  | .ptr d => uptoBulk d + 1
  | .slice elems spare => uptoBulkAll elems + uptoBulkAll spare + 1
  | .agg parts => uptoBulkAll parts + 1
  | .iface _ d => uptoBulk d + 1
  | .map entries => uptoBulkEntries entries + 1
  | .held _ => 1
def uptoBulkAll {H : Type} : List (DataW H) → Nat
  | [] => 0
  | d :: r => uptoBulk d + uptoBulkAll r
def uptoBulkEntries {H : Type} : List (Lit × DataW H) → Nat
  | [] => 0
  | x :: r => uptoBulkEntry x + uptoBulkEntries r
def uptoBulkEntry {H : Type} : Lit × DataW H → Nat
  | (.string bytes, d) => bytes.length + uptoBulk d + 1
  | (_, d) => uptoBulk d + 1
 end
def uptoSmall : (H : Type) → List (DataW H) → Bool := fun _ ds => decide (uptoBulkAll ds ≤ 1048576)
def OpenSpec.upto (s : _root_.Go.ChangeSpec) : _root_.Go.OpenSpec := { _root_.Go.OpenSpec.ofChange s with cond := some uptoSmall }

/-- 'sojournerlaw14.BucketsTake', WHERE WHAT IT READS IS OF BULK AT MOST 1048576: true; the input reads as it did. -/
def bucketsTakeUptoRow : OpenClaim := { program := "ytmmligongchopaa", sum := "e854dca4bde4c50dca063de493782623843cdb54c59a36be7451c3fee540f48c", func := "sojourner/sojournerlaw14.BucketsTake", spec := "bucketsTake", unfollowed := true, recurses := true, apart := false, narrowed := true }
def BucketsTakeUptoSaid : Prop := bucketsTakeUptoRow.holds Try.pinned (OpenSpec.upto bucketsTakeSpec)

/-- 'sojournerlaw14.BucketsVoid', WHERE WHAT IT READS IS OF BULK AT MOST 1048576: true; the input reads as it did. -/
def bucketsVoidUptoRow : OpenClaim := { program := "ytmmligongchopaa", sum := "e854dca4bde4c50dca063de493782623843cdb54c59a36be7451c3fee540f48c", func := "sojourner/sojournerlaw14.BucketsVoid", spec := "bucketsVoid", unfollowed := true, recurses := true, apart := false, narrowed := true }
def BucketsVoidUptoSaid : Prop := bucketsVoidUptoRow.holds Try.pinned (OpenSpec.upto bucketsVoidSpec)

/-- 'sojournerlaw14.BucketsBound', WHERE WHAT IT READS IS OF BULK AT MOST 1048576: true; the input reads as it did. -/
def bucketsBoundUptoRow : OpenClaim := { program := "ytmmligongchopaa", sum := "e854dca4bde4c50dca063de493782623843cdb54c59a36be7451c3fee540f48c", func := "sojourner/sojournerlaw14.BucketsBound", spec := "bucketsBound", unfollowed := true, recurses := true, apart := false, narrowed := true }
def BucketsBoundUptoSaid : Prop := bucketsBoundUptoRow.holds Try.pinned (OpenSpec.upto bucketsBoundSpec)

/-- 'sojournerlaw14.BucketsEven', WHERE WHAT IT READS IS OF BULK AT MOST 1048576: true; the input reads as it did. -/
def bucketsEvenUptoRow : OpenClaim := { program := "ytmmligongchopaa", sum := "e854dca4bde4c50dca063de493782623843cdb54c59a36be7451c3fee540f48c", func := "sojourner/sojournerlaw14.BucketsEven", spec := "bucketsEven", unfollowed := true, recurses := true, apart := false, narrowed := true }
def BucketsEvenUptoSaid : Prop := bucketsEvenUptoRow.holds Try.pinned (OpenSpec.upto bucketsEvenSpec)

/-- 'sojournerlaw14.BucketsBack', WHERE WHAT IT READS IS OF BULK AT MOST 1048576: true; the input reads as it did. -/
def bucketsBackUptoRow : OpenClaim := { program := "ytmmligongchopaa", sum := "e854dca4bde4c50dca063de493782623843cdb54c59a36be7451c3fee540f48c", func := "sojourner/sojournerlaw14.BucketsBack", spec := "bucketsBack", unfollowed := true, recurses := true, apart := false, narrowed := true }
def BucketsBackUptoSaid : Prop := bucketsBackUptoRow.holds Try.pinned (OpenSpec.upto bucketsBackSpec)

end Rows
end Go.Proofs.Ytmmligongchopaa
