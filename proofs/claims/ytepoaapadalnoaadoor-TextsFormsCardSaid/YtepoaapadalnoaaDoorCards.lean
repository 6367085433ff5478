/-
  DERIVED. GIVEN WITH THE SEED: THE CARDS: each row of YtepoaapadalnoaaDoorRows.lean that lists a variable, with what it lists TIED to the program's text (the seventh form; the later family's looks); each row that meets fmt, with fmt's text TOLD by the authors' own Lean function (tested against real Go, not proved from fmt's source: count such statements apart). THE CARD IS WHAT COUNTS. Prove the row's statement (the work); the ties are given (YtepoaapadalnoaaDoorTie.lean); close each card by the builder's one call (the guide's Derived/Test/ToyasCard.lean, 'card_holds'). Laid BY PROGRAM, IN A SANDBOX (cutbox-door.mjs). By AI agents, Wed Nov 11 2026. No macro, syntax, notation, axiom, sorry.
-/
import Derived.Test.YtepoaapadalnoaaDoorRows
import GoSem.ClaimSeven
namespace Go.Proofs.YtepoaapadalnoaaDoor
namespace Rows

/-- THE TIED CARD OF 'sojournerlaw07.TextsPut'. -/
def textsPutCard : Claim7 := { stood := { row := textsPutRow, standIns := [], harness := (true, "d425a3e160c4c7da399c25199051e3bc2d74a94b950b1a0f9d520b3e888ca8bf"), looks := false }, kinds := [], alts := [], laidByText := true, laidKinds := [.data, .data, .data, .data, .pinned], laidTests := true, laidLooks := .later }
def TextsPutCardSaid : Prop := Claim7.holds Tryd.pinned (.plain (OpenSpec.ofChange textsPutSpec)) textsPutCard

/-- THE TIED CARD OF 'sojournerlaw07.TextsGet'. -/
def textsGetCard : Claim7 := { stood := { row := textsGetRow, standIns := [], harness := (true, "d425a3e160c4c7da399c25199051e3bc2d74a94b950b1a0f9d520b3e888ca8bf"), looks := false }, kinds := [], alts := [], laidByText := true, laidKinds := [.data, .data, .data, .data, .pinned], laidTests := true, laidLooks := .later }
def TextsGetCardSaid : Prop := Claim7.holds Tryd.pinned (.plain (OpenSpec.ofChange textsGetSpec)) textsGetCard

/-- THE TIED CARD OF 'sojournerlaw07.TextsBack'. -/
def textsBackCard : Claim7 := { stood := { row := textsBackRow, standIns := [], harness := (true, "d425a3e160c4c7da399c25199051e3bc2d74a94b950b1a0f9d520b3e888ca8bf"), looks := false }, kinds := [], alts := [], laidByText := true, laidKinds := [.data, .data, .data, .data, .pinned], laidTests := true, laidLooks := .later }
def TextsBackCardSaid : Prop := Claim7.holds Tryd.pinned (.plain (OpenSpec.ofChange textsBackSpec)) textsBackCard

/-- THE TIED CARD OF 'sojournerlaw07.TextsForms'. -/
def textsFormsCard : Claim7 := { stood := { row := textsFormsRow, standIns := [], harness := (true, "d425a3e160c4c7da399c25199051e3bc2d74a94b950b1a0f9d520b3e888ca8bf"), looks := false }, kinds := [], alts := [], laidByText := true, laidKinds := [.data, .data, .data, .data, .pinned], laidTests := true, laidLooks := .later }
def TextsFormsCardSaid : Prop := Claim7.holds Tryd.pinned (.plain (OpenSpec.ofChange textsFormsSpec)) textsFormsCard

/-- THE TIED CARD OF 'sojournerlaw07.TextsWrong'. -/
def textsWrongCard : Claim7 := { stood := { row := textsWrongRow, standIns := [], harness := (true, "d425a3e160c4c7da399c25199051e3bc2d74a94b950b1a0f9d520b3e888ca8bf"), looks := false }, kinds := [], alts := [], laidByText := true, laidKinds := [.data, .data, .data, .data, .pinned], laidTests := true, laidLooks := .later }
def TextsWrongCardSaid : Prop := Claim7.holds Tryd.pinned (.plain (OpenSpec.ofChange textsWrongSpec)) textsWrongCard

/-- THE SECOND FORM's CARD OF 'sojournerlaw07.TextsPut'. -/
def textsPutUptoCard : Claim7 := { stood := { row := textsPutUptoRow, standIns := [], harness := (true, "d425a3e160c4c7da399c25199051e3bc2d74a94b950b1a0f9d520b3e888ca8bf"), looks := false }, kinds := [], alts := [], laidByText := true, laidKinds := [.data, .data, .data, .data, .pinned], laidTests := true, laidLooks := .later }
def TextsPutUptoCardSaid : Prop := Claim7.holds Tryd.pinned (.plain (OpenSpec.upto textsPutSpec)) textsPutUptoCard

/-- THE SECOND FORM's CARD OF 'sojournerlaw07.TextsGet'. -/
def textsGetUptoCard : Claim7 := { stood := { row := textsGetUptoRow, standIns := [], harness := (true, "d425a3e160c4c7da399c25199051e3bc2d74a94b950b1a0f9d520b3e888ca8bf"), looks := false }, kinds := [], alts := [], laidByText := true, laidKinds := [.data, .data, .data, .data, .pinned], laidTests := true, laidLooks := .later }
def TextsGetUptoCardSaid : Prop := Claim7.holds Tryd.pinned (.plain (OpenSpec.upto textsGetSpec)) textsGetUptoCard

/-- THE SECOND FORM's CARD OF 'sojournerlaw07.TextsBack'. -/
def textsBackUptoCard : Claim7 := { stood := { row := textsBackUptoRow, standIns := [], harness := (true, "d425a3e160c4c7da399c25199051e3bc2d74a94b950b1a0f9d520b3e888ca8bf"), looks := false }, kinds := [], alts := [], laidByText := true, laidKinds := [.data, .data, .data, .data, .pinned], laidTests := true, laidLooks := .later }
def TextsBackUptoCardSaid : Prop := Claim7.holds Tryd.pinned (.plain (OpenSpec.upto textsBackSpec)) textsBackUptoCard

/-- THE SECOND FORM's CARD OF 'sojournerlaw07.TextsForms'. -/
def textsFormsUptoCard : Claim7 := { stood := { row := textsFormsUptoRow, standIns := [], harness := (true, "d425a3e160c4c7da399c25199051e3bc2d74a94b950b1a0f9d520b3e888ca8bf"), looks := false }, kinds := [], alts := [], laidByText := true, laidKinds := [.data, .data, .data, .data, .pinned], laidTests := true, laidLooks := .later }
def TextsFormsUptoCardSaid : Prop := Claim7.holds Tryd.pinned (.plain (OpenSpec.upto textsFormsSpec)) textsFormsUptoCard

/-- THE SECOND FORM's CARD OF 'sojournerlaw07.TextsWrong'. -/
def textsWrongUptoCard : Claim7 := { stood := { row := textsWrongUptoRow, standIns := [], harness := (true, "d425a3e160c4c7da399c25199051e3bc2d74a94b950b1a0f9d520b3e888ca8bf"), looks := false }, kinds := [], alts := [], laidByText := true, laidKinds := [.data, .data, .data, .data, .pinned], laidTests := true, laidLooks := .later }
def TextsWrongUptoCardSaid : Prop := Claim7.holds Tryd.pinned (.plain (OpenSpec.upto textsWrongSpec)) textsWrongUptoCard
end Rows
end Go.Proofs.YtepoaapadalnoaaDoor
