/-
  NARROWER THAN 'FOR EVERY INPUT', by the rows' own cells (each row's printed sentence says how): OptionsGet: laid · OptionsBack: laid · OptionsPut: laid · OptionsMade: laid · OptionsKinds: laid.
  DERIVED. THE GIVEN ROWS OF THIS SEAT. 5 by the template 'for every input the law returns true; each argument reads behind the call as it read before'; 0 by the template 'total and deterministic' (their statements: YtfolamkjlgpgmaaDoorTotals.lean).
  GIVEN WITH THE SEED: the statements are not yours to turn. If you find one false, say at which input.
  Laid BY PROGRAM, IN A SANDBOX (cutbox-rows.mjs): the forced cells as the released guide's own fill.sh prints them over the translation f136287ec04b1aef… (all of the seat's roots in one cut). By AI agents, Wed Nov 11 2026. No macro, syntax, notation, axiom, sorry.
-/
import Derived.Test.YtfolamkjlgpgmaaDoorChecked
import GoSem.PinnedTables
import GoSem.Claim
import GoSem.ClaimJoined
import GoSem.ClaimMapViews
import Derived.JoinedTies
import Derived.KernelRfl
namespace Go.Proofs.YtfolamkjlgpgmaaDoor
/- THE CELL 'sum', in the pinned program and in every row, IS THE sha256 OF THE DUMP (.gsa) THAT YtfolamkjlgpgmaaDoorProg.lean LOADS. Nothing in Lean hashes anything: it is a label: what it is worth is what the hold of that sum in a sandbox is worth. -/
noncomputable def Tryd.pinned : Pinned := { name := "ytfolamkjlgpgmaadoor", sum := "f136287ec04b1aeff6e6908da54a7ca6836c185aac1862be9f828e33378ce001", checked := Tryd.checked }
namespace Rows
def none {H : Type} : Left H := { results := [], args := [] }

/- WHAT THE LISTED PACKAGE-LEVEL VARIABLES READ AS WHEN THE CALL BEGINS. Each datum BY PROGRAM (the guide's laid-datum.mjs) off the statement by which the dump's own 'gosem.cut.vars' lays the variable. In a bare row this is a premise. The card (YtfolamkjlgpgmaaDoorCards.lean) ties it to the program's text. -/
def laid_unicode_utf8_acceptRanges {H : Type} : DataW H := .agg [.agg [.lit (.int .u8 128), .lit (.int .u8 191)], .agg [.lit (.int .u8 160), .lit (.int .u8 191)], .agg [.lit (.int .u8 128), .lit (.int .u8 159)], .agg [.lit (.int .u8 144), .lit (.int .u8 191)], .agg [.lit (.int .u8 128), .lit (.int .u8 143)], .agg [.lit (.int .u8 0), .lit (.int .u8 0)], .agg [.lit (.int .u8 0), .lit (.int .u8 0)], .agg [.lit (.int .u8 0), .lit (.int .u8 0)], .agg [.lit (.int .u8 0), .lit (.int .u8 0)], .agg [.lit (.int .u8 0), .lit (.int .u8 0)], .agg [.lit (.int .u8 0), .lit (.int .u8 0)], .agg [.lit (.int .u8 0), .lit (.int .u8 0)], .agg [.lit (.int .u8 0), .lit (.int .u8 0)], .agg [.lit (.int .u8 0), .lit (.int .u8 0)], .agg [.lit (.int .u8 0), .lit (.int .u8 0)], .agg [.lit (.int .u8 0), .lit (.int .u8 0)]]
/-- One of Go's own tables, pinned by name: the form's constant. -/
def laid_unicode_utf8_first : DataW Unit := Go.Pinned.utf8First

/-- 'sojournerlaw10.OptionsGet': WHATEVER THE INPUT: true; the input reads as it did. -/
def optionsGetSpec : ChangeSpec := { name := "optionsGet", fn := fun _ => fun
  | [d] => { results := [.lit (.bool true)], args := [d] }
  | _ => none }
def optionsGetRow : OpenClaim := { program := "ytfolamkjlgpgmaadoor", sum := "f136287ec04b1aeff6e6908da54a7ca6836c185aac1862be9f828e33378ce001", func := "sojourner/sojournerlaw10.OptionsGet", spec := "optionsGet", inPlace := ["internal/bytealg.IndexByteString", "internal/bytealg.IndexString", "internal/bytealg.CountString"], unfollowed := true, recurses := true, named := ["unicode/utf8.first", "unicode/utf8.acceptRanges", "internal/bytealg.MaxLen"], apart := false, laid := [("unicode/utf8.acceptRanges", laid_unicode_utf8_acceptRanges), ("unicode/utf8.first", laid_unicode_utf8_first)] }
def OptionsGetSaid : Prop := optionsGetRow.holds Tryd.pinned (OpenSpec.ofChange optionsGetSpec)

/-- ITS FALSE NEIGHBOUR: 'it returns false'. Refute it at one input. -/
def optionsGetWrong : ChangeSpec := { name := "optionsGet", fn := fun _ => fun
  | [d] => { results := [.lit (.bool false)], args := [d] }
  | _ => none }
def OptionsGetWrongFalsely : Prop := optionsGetRow.holds Tryd.pinned (OpenSpec.ofChange optionsGetWrong)

/-- 'sojournerlaw10.OptionsBack': WHATEVER THE INPUT: true; the input reads as it did. -/
def optionsBackSpec : ChangeSpec := { name := "optionsBack", fn := fun _ => fun
  | [d1, d2] => { results := [.lit (.bool true)], args := [d1, d2] }
  | _ => none }
def optionsBackRow : OpenClaim := { program := "ytfolamkjlgpgmaadoor", sum := "f136287ec04b1aeff6e6908da54a7ca6836c185aac1862be9f828e33378ce001", func := "sojourner/sojournerlaw10.OptionsBack", spec := "optionsBack", inPlace := ["internal/bytealg.IndexByteString", "internal/bytealg.IndexString", "internal/bytealg.CountString"], unfollowed := true, recurses := true, named := ["unicode/utf8.first", "unicode/utf8.acceptRanges", "internal/bytealg.MaxLen"], apart := false, laid := [("unicode/utf8.acceptRanges", laid_unicode_utf8_acceptRanges), ("unicode/utf8.first", laid_unicode_utf8_first)] }
def OptionsBackSaid : Prop := optionsBackRow.holds Tryd.pinned (OpenSpec.ofChange optionsBackSpec)

/-- ITS FALSE NEIGHBOUR: 'it returns false'. Refute it at one input. -/
def optionsBackWrong : ChangeSpec := { name := "optionsBack", fn := fun _ => fun
  | [d1, d2] => { results := [.lit (.bool false)], args := [d1, d2] }
  | _ => none }
def OptionsBackWrongFalsely : Prop := optionsBackRow.holds Tryd.pinned (OpenSpec.ofChange optionsBackWrong)

/-- 'sojournerlaw10.OptionsPut': WHATEVER THE INPUT: true; the input reads as it did. -/
def optionsPutSpec : ChangeSpec := { name := "optionsPut", fn := fun _ => fun
  | [d1, d2] => { results := [.lit (.bool true)], args := [d1, d2] }
  | _ => none }
def optionsPutRow : OpenClaim := { program := "ytfolamkjlgpgmaadoor", sum := "f136287ec04b1aeff6e6908da54a7ca6836c185aac1862be9f828e33378ce001", func := "sojourner/sojournerlaw10.OptionsPut", spec := "optionsPut", inPlace := ["internal/bytealg.IndexByteString", "internal/bytealg.IndexString", "internal/bytealg.CountString"], unfollowed := true, recurses := true, named := ["unicode/utf8.first", "unicode/utf8.acceptRanges", "internal/bytealg.MaxLen"], apart := false, laid := [("unicode/utf8.acceptRanges", laid_unicode_utf8_acceptRanges), ("unicode/utf8.first", laid_unicode_utf8_first)] }
def OptionsPutSaid : Prop := optionsPutRow.holds Tryd.pinned (OpenSpec.ofChange optionsPutSpec)

/-- ITS FALSE NEIGHBOUR: 'it returns false'. Refute it at one input. -/
def optionsPutWrong : ChangeSpec := { name := "optionsPut", fn := fun _ => fun
  | [d1, d2] => { results := [.lit (.bool false)], args := [d1, d2] }
  | _ => none }
def OptionsPutWrongFalsely : Prop := optionsPutRow.holds Tryd.pinned (OpenSpec.ofChange optionsPutWrong)

/-- 'sojournerlaw10.OptionsMade': WHATEVER THE INPUT: true; the input reads as it did. -/
def optionsMadeSpec : ChangeSpec := { name := "optionsMade", fn := fun _ => fun
  | [d] => { results := [.lit (.bool true)], args := [d] }
  | _ => none }
def optionsMadeRow : OpenClaim := { program := "ytfolamkjlgpgmaadoor", sum := "f136287ec04b1aeff6e6908da54a7ca6836c185aac1862be9f828e33378ce001", func := "sojourner/sojournerlaw10.OptionsMade", spec := "optionsMade", inPlace := ["internal/bytealg.IndexByteString", "internal/bytealg.IndexString", "internal/bytealg.CountString"], unfollowed := true, recurses := true, named := ["unicode/utf8.first", "unicode/utf8.acceptRanges", "internal/bytealg.MaxLen"], apart := false, laid := [("unicode/utf8.acceptRanges", laid_unicode_utf8_acceptRanges), ("unicode/utf8.first", laid_unicode_utf8_first)] }
def OptionsMadeSaid : Prop := optionsMadeRow.holds Tryd.pinned (OpenSpec.ofChange optionsMadeSpec)

/-- ITS FALSE NEIGHBOUR: 'it returns false'. Refute it at one input. -/
def optionsMadeWrong : ChangeSpec := { name := "optionsMade", fn := fun _ => fun
  | [d] => { results := [.lit (.bool false)], args := [d] }
  | _ => none }
def OptionsMadeWrongFalsely : Prop := optionsMadeRow.holds Tryd.pinned (OpenSpec.ofChange optionsMadeWrong)

/-- 'sojournerlaw10.OptionsKinds': WHATEVER THE INPUT: true; the input reads as it did. -/
def optionsKindsSpec : ChangeSpec := { name := "optionsKinds", fn := fun _ => fun
  | [d1, d2] => { results := [.lit (.bool true)], args := [d1, d2] }
  | _ => none }
def optionsKindsRow : OpenClaim := { program := "ytfolamkjlgpgmaadoor", sum := "f136287ec04b1aeff6e6908da54a7ca6836c185aac1862be9f828e33378ce001", func := "sojourner/sojournerlaw10.OptionsKinds", spec := "optionsKinds", inPlace := ["internal/bytealg.IndexByteString", "internal/bytealg.IndexString", "internal/bytealg.CountString"], unfollowed := true, recurses := true, named := ["unicode/utf8.first", "unicode/utf8.acceptRanges", "internal/bytealg.MaxLen"], apart := false, laid := [("unicode/utf8.acceptRanges", laid_unicode_utf8_acceptRanges), ("unicode/utf8.first", laid_unicode_utf8_first)] }
def OptionsKindsSaid : Prop := optionsKindsRow.holds Tryd.pinned (OpenSpec.ofChange optionsKindsSpec)

/-- ITS FALSE NEIGHBOUR: 'it returns false'. Refute it at one input. -/
def optionsKindsWrong : ChangeSpec := { name := "optionsKinds", fn := fun _ => fun
  | [d1, d2] => { results := [.lit (.bool false)], args := [d1, d2] }
  | _ => none }
def OptionsKindsWrongFalsely : Prop := optionsKindsRow.holds Tryd.pinned (OpenSpec.ofChange optionsKindsWrong)

/- THE SECOND FORM. 'bulk': how many values and letters a reading holds, each counted each time it is reached (what is shared counts as often as it is met; a slice's spare places count too). A statement '..UptoSaid' is the law's where the arguments, and the package variables that the reading takes, are together of bulk at most 1048576: NARROWER than '..Said'. Prove '..Said' where nothing that the law and all that it calls make is longer than what came in: it says more and counts as full. Else prove '..UptoSaid'. A law counts once. -/
mutual
def uptoBulk {H : Type} : DataW H → Nat
  | .lit (.string bytes) => bytes.length + 1
  | .lit _ => 1
  | .nil => 1
  | .ptr d => uptoBulk d + 1
  | .slice elems spare => uptoBulkAll elems + uptoBulkAll spare + 1
  | .agg parts => uptoBulkAll parts + 1
  | .iface _ d => uptoBulk d + 1
  | .map entries => uptoBulkEntries entries + 1
  | .held _ => 1
def uptoBulkAll {H : Type} : List (DataW H) → Nat
  | [] => 0
  | d :: r => uptoBulk d + uptoBulkAll r
def uptoBulkEntries {H : Type} : List (Lit × DataW H) → Nat
  | [] => 0
  | x :: r => uptoBulkEntry x + uptoBulkEntries r
def uptoBulkEntry {H : Type} : Lit × DataW H → Nat
  | (.string bytes, d) => bytes.length + uptoBulk d + 1
  | (_, d) => uptoBulk d + 1
 end
def uptoSmall : (H : Type) → List (DataW H) → Bool := fun _ ds => decide (uptoBulkAll ds ≤ 1048576)
def OpenSpec.upto (s : _root_.Go.ChangeSpec) : _root_.Go.OpenSpec := { _root_.Go.OpenSpec.ofChange s with cond := some uptoSmall }

/-- 'sojournerlaw10.OptionsGet', WHERE WHAT IT READS IS OF BULK AT MOST 1048576: true; the input reads as it did. -/
def optionsGetUptoRow : OpenClaim := { program := "ytfolamkjlgpgmaadoor", sum := "f136287ec04b1aeff6e6908da54a7ca6836c185aac1862be9f828e33378ce001", func := "sojourner/sojournerlaw10.OptionsGet", spec := "optionsGet", inPlace := ["internal/bytealg.IndexByteString", "internal/bytealg.IndexString", "internal/bytealg.CountString"], unfollowed := true, recurses := true, named := ["unicode/utf8.first", "unicode/utf8.acceptRanges", "internal/bytealg.MaxLen"], apart := false, laid := [("unicode/utf8.acceptRanges", laid_unicode_utf8_acceptRanges), ("unicode/utf8.first", laid_unicode_utf8_first)], narrowed := true }
def OptionsGetUptoSaid : Prop := optionsGetUptoRow.holds Tryd.pinned (OpenSpec.upto optionsGetSpec)

/-- 'sojournerlaw10.OptionsBack', WHERE WHAT IT READS IS OF BULK AT MOST 1048576: true; the input reads as it did. -/
def optionsBackUptoRow : OpenClaim := { program := "ytfolamkjlgpgmaadoor", sum := "f136287ec04b1aeff6e6908da54a7ca6836c185aac1862be9f828e33378ce001", func := "sojourner/sojournerlaw10.OptionsBack", spec := "optionsBack", inPlace := ["internal/bytealg.IndexByteString", "internal/bytealg.IndexString", "internal/bytealg.CountString"], unfollowed := true, recurses := true, named := ["unicode/utf8.first", "unicode/utf8.acceptRanges", "internal/bytealg.MaxLen"], apart := false, laid := [("unicode/utf8.acceptRanges", laid_unicode_utf8_acceptRanges), ("unicode/utf8.first", laid_unicode_utf8_first)], narrowed := true }
def OptionsBackUptoSaid : Prop := optionsBackUptoRow.holds Tryd.pinned (OpenSpec.upto optionsBackSpec)

/-- 'sojournerlaw10.OptionsPut', WHERE WHAT IT READS IS OF BULK AT MOST 1048576: true; the input reads as it did. -/
def optionsPutUptoRow : OpenClaim := { program := "ytfolamkjlgpgmaadoor", sum := "f136287ec04b1aeff6e6908da54a7ca6836c185aac1862be9f828e33378ce001", func := "sojourner/sojournerlaw10.OptionsPut", spec := "optionsPut", inPlace := ["internal/bytealg.IndexByteString", "internal/bytealg.IndexString", "internal/bytealg.CountString"], unfollowed := true, recurses := true, named := ["unicode/utf8.first", "unicode/utf8.acceptRanges", "internal/bytealg.MaxLen"], apart := false, laid := [("unicode/utf8.acceptRanges", laid_unicode_utf8_acceptRanges), ("unicode/utf8.first", laid_unicode_utf8_first)], narrowed := true }
def OptionsPutUptoSaid : Prop := optionsPutUptoRow.holds Tryd.pinned (OpenSpec.upto optionsPutSpec)

/-- 'sojournerlaw10.OptionsMade', WHERE WHAT IT READS IS OF BULK AT MOST 1048576: true; the input reads as it did. -/
def optionsMadeUptoRow : OpenClaim := { program := "ytfolamkjlgpgmaadoor", sum := "f136287ec04b1aeff6e6908da54a7ca6836c185aac1862be9f828e33378ce001", func := "sojourner/sojournerlaw10.OptionsMade", spec := "optionsMade", inPlace := ["internal/bytealg.IndexByteString", "internal/bytealg.IndexString", "internal/bytealg.CountString"], unfollowed := true, recurses := true, named := ["unicode/utf8.first", "unicode/utf8.acceptRanges", "internal/bytealg.MaxLen"], apart := false, laid := [("unicode/utf8.acceptRanges", laid_unicode_utf8_acceptRanges), ("unicode/utf8.first", laid_unicode_utf8_first)], narrowed := true }
def OptionsMadeUptoSaid : Prop := optionsMadeUptoRow.holds Tryd.pinned (OpenSpec.upto optionsMadeSpec)

/-- 'sojournerlaw10.OptionsKinds', WHERE WHAT IT READS IS OF BULK AT MOST 1048576: true; the input reads as it did. -/
def optionsKindsUptoRow : OpenClaim := { program := "ytfolamkjlgpgmaadoor", sum := "f136287ec04b1aeff6e6908da54a7ca6836c185aac1862be9f828e33378ce001", func := "sojourner/sojournerlaw10.OptionsKinds", spec := "optionsKinds", inPlace := ["internal/bytealg.IndexByteString", "internal/bytealg.IndexString", "internal/bytealg.CountString"], unfollowed := true, recurses := true, named := ["unicode/utf8.first", "unicode/utf8.acceptRanges", "internal/bytealg.MaxLen"], apart := false, laid := [("unicode/utf8.acceptRanges", laid_unicode_utf8_acceptRanges), ("unicode/utf8.first", laid_unicode_utf8_first)], narrowed := true }
def OptionsKindsUptoSaid : Prop := optionsKindsUptoRow.holds Tryd.pinned (OpenSpec.upto optionsKindsSpec)

end Rows
end Go.Proofs.YtfolamkjlgpgmaaDoor
