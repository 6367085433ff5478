/-
  DERIVED. GIVEN WITH THE SEED: THE CARDS: each row of YtfolamkjlgpgmaaDoorRows.lean that lists a variable, with what it lists TIED to the program's text (the seventh form; the later family's looks); each row that meets fmt, with fmt's text TOLD by the authors' own Lean function (tested against real Go, not proved from fmt's source: count such statements apart). THE CARD IS WHAT COUNTS. Prove the row's statement (the work); the ties are given (YtfolamkjlgpgmaaDoorTie.lean); close each card by the builder's one call (the guide's Derived/Test/ToyasCard.lean, 'card_holds'). Laid BY PROGRAM, IN A SANDBOX (cutbox-door.mjs). By AI agents, Wed Nov 11 2026. No macro, syntax, notation, axiom, sorry.
-/
import Derived.Test.YtfolamkjlgpgmaaDoorRows
import GoSem.ClaimSeven
namespace Go.Proofs.YtfolamkjlgpgmaaDoor
namespace Rows

/-- THE TIED CARD OF 'sojournerlaw10.OptionsGet'. -/
def optionsGetCard : Claim7 := { stood := { row := optionsGetRow, standIns := [], harness := (true, "5fb95258e11a75328f777a4b2de28d1d9d28d088d8e242fbc544c09dd809ab92"), looks := false }, kinds := [], alts := [], laidByText := true, laidKinds := [.data, .pinned], laidTests := true, laidLooks := .later }
def OptionsGetCardSaid : Prop := Claim7.holds Tryd.pinned (.plain (OpenSpec.ofChange optionsGetSpec)) optionsGetCard

/-- THE TIED CARD OF 'sojournerlaw10.OptionsBack'. -/
def optionsBackCard : Claim7 := { stood := { row := optionsBackRow, standIns := [], harness := (true, "5fb95258e11a75328f777a4b2de28d1d9d28d088d8e242fbc544c09dd809ab92"), looks := false }, kinds := [], alts := [], laidByText := true, laidKinds := [.data, .pinned], laidTests := true, laidLooks := .later }
def OptionsBackCardSaid : Prop := Claim7.holds Tryd.pinned (.plain (OpenSpec.ofChange optionsBackSpec)) optionsBackCard

/-- THE TIED CARD OF 'sojournerlaw10.OptionsPut'. -/
def optionsPutCard : Claim7 := { stood := { row := optionsPutRow, standIns := [], harness := (true, "5fb95258e11a75328f777a4b2de28d1d9d28d088d8e242fbc544c09dd809ab92"), looks := false }, kinds := [], alts := [], laidByText := true, laidKinds := [.data, .pinned], laidTests := true, laidLooks := .later }
def OptionsPutCardSaid : Prop := Claim7.holds Tryd.pinned (.plain (OpenSpec.ofChange optionsPutSpec)) optionsPutCard

/-- THE TIED CARD OF 'sojournerlaw10.OptionsMade'. -/
def optionsMadeCard : Claim7 := { stood := { row := optionsMadeRow, standIns := [], harness := (true, "5fb95258e11a75328f777a4b2de28d1d9d28d088d8e242fbc544c09dd809ab92"), looks := false }, kinds := [], alts := [], laidByText := true, laidKinds := [.data, .pinned], laidTests := true, laidLooks := .later }
def OptionsMadeCardSaid : Prop := Claim7.holds Tryd.pinned (.plain (OpenSpec.ofChange optionsMadeSpec)) optionsMadeCard

/-- THE TIED CARD OF 'sojournerlaw10.OptionsKinds'. -/
def optionsKindsCard : Claim7 := { stood := { row := optionsKindsRow, standIns := [], harness := (true, "5fb95258e11a75328f777a4b2de28d1d9d28d088d8e242fbc544c09dd809ab92"), looks := false }, kinds := [], alts := [], laidByText := true, laidKinds := [.data, .pinned], laidTests := true, laidLooks := .later }
def OptionsKindsCardSaid : Prop := Claim7.holds Tryd.pinned (.plain (OpenSpec.ofChange optionsKindsSpec)) optionsKindsCard

/-- THE SECOND FORM's CARD OF 'sojournerlaw10.OptionsGet'. -/
def optionsGetUptoCard : Claim7 := { stood := { row := optionsGetUptoRow, standIns := [], harness := (true, "5fb95258e11a75328f777a4b2de28d1d9d28d088d8e242fbc544c09dd809ab92"), looks := false }, kinds := [], alts := [], laidByText := true, laidKinds := [.data, .pinned], laidTests := true, laidLooks := .later }
def OptionsGetUptoCardSaid : Prop := Claim7.holds Tryd.pinned (.plain (OpenSpec.upto optionsGetSpec)) optionsGetUptoCard

/-- THE SECOND FORM's CARD OF 'sojournerlaw10.OptionsBack'. -/
def optionsBackUptoCard : Claim7 := { stood := { row := optionsBackUptoRow, standIns := [], harness := (true, "5fb95258e11a75328f777a4b2de28d1d9d28d088d8e242fbc544c09dd809ab92"), looks := false }, kinds := [], alts := [], laidByText := true, laidKinds := [.data, .pinned], laidTests := true, laidLooks := .later }
def OptionsBackUptoCardSaid : Prop := Claim7.holds Tryd.pinned (.plain (OpenSpec.upto optionsBackSpec)) optionsBackUptoCard

/-- THE SECOND FORM's CARD OF 'sojournerlaw10.OptionsPut'. -/
def optionsPutUptoCard : Claim7 := { stood := { row := optionsPutUptoRow, standIns := [], harness := (true, "5fb95258e11a75328f777a4b2de28d1d9d28d088d8e242fbc544c09dd809ab92"), looks := false }, kinds := [], alts := [], laidByText := true, laidKinds := [.data, .pinned], laidTests := true, laidLooks := .later }
def OptionsPutUptoCardSaid : Prop := Claim7.holds Tryd.pinned (.plain (OpenSpec.upto optionsPutSpec)) optionsPutUptoCard

/-- THE SECOND FORM's CARD OF 'sojournerlaw10.OptionsMade'. -/
def optionsMadeUptoCard : Claim7 := { stood := { row := optionsMadeUptoRow, standIns := [], harness := (true, "5fb95258e11a75328f777a4b2de28d1d9d28d088d8e242fbc544c09dd809ab92"), looks := false }, kinds := [], alts := [], laidByText := true, laidKinds := [.data, .pinned], laidTests := true, laidLooks := .later }
def OptionsMadeUptoCardSaid : Prop := Claim7.holds Tryd.pinned (.plain (OpenSpec.upto optionsMadeSpec)) optionsMadeUptoCard

/-- THE SECOND FORM's CARD OF 'sojournerlaw10.OptionsKinds'. -/
def optionsKindsUptoCard : Claim7 := { stood := { row := optionsKindsUptoRow, standIns := [], harness := (true, "5fb95258e11a75328f777a4b2de28d1d9d28d088d8e242fbc544c09dd809ab92"), looks := false }, kinds := [], alts := [], laidByText := true, laidKinds := [.data, .pinned], laidTests := true, laidLooks := .later }
def OptionsKindsUptoCardSaid : Prop := Claim7.holds Tryd.pinned (.plain (OpenSpec.upto optionsKindsSpec)) optionsKindsUptoCard
end Rows
end Go.Proofs.YtfolamkjlgpgmaaDoor
