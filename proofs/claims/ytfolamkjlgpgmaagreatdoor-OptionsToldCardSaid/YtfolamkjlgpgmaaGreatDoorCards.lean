/-
  DERIVED. GIVEN WITH THE SEED: THE CARDS: each row of YtfolamkjlgpgmaaGreatDoorRows.lean that lists a variable, with what it lists TIED to the program's text (the seventh form; the later family's looks); each row that meets fmt, with fmt's text TOLD by the authors' own Lean function (tested against real Go, not proved from fmt's source: count such statements apart). THE CARD IS WHAT COUNTS. Prove the row's statement (the work); the ties are given (YtfolamkjlgpgmaaGreatDoorTie.lean); close each card by the builder's one call (the guide's Derived/Test/ToyasCard.lean, 'card_holds'). Laid BY PROGRAM, IN A SANDBOX (cutbox-door.mjs). By AI agents, Wed Nov 11 2026. No macro, syntax, notation, axiom, sorry.
-/
import Derived.Test.YtfolamkjlgpgmaaGreatDoorRows
import GoSem.ClaimSeven
namespace Go.Proofs.YtfolamkjlgpgmaaGreatDoor
namespace Rows

/-- THE TIED CARD OF 'sojournerlaw10.OptionsTold'. -/
def optionsToldCard : Claim7 := { stood := { row := optionsToldRow, standIns := [], harness := (true, "5e6595db4345967668bc8f9030f473cdb2d82b6b5a842e4dce87cc7ee204665d"), looks := false }, kinds := [], alts := [], laidByText := true, laidKinds := [.data, .pinned], laidTests := true, laidLooks := .later }
def OptionsToldCardSaid : Prop := Claim7.holds Tryz.pinned (.plain (OpenSpec.ofChange optionsToldSpec)) optionsToldCard

/-- THE SECOND FORM's CARD OF 'sojournerlaw10.OptionsTold'. -/
def optionsToldUptoCard : Claim7 := { stood := { row := optionsToldUptoRow, standIns := [], harness := (true, "5e6595db4345967668bc8f9030f473cdb2d82b6b5a842e4dce87cc7ee204665d"), looks := false }, kinds := [], alts := [], laidByText := true, laidKinds := [.data, .pinned], laidTests := true, laidLooks := .later }
def OptionsToldUptoCardSaid : Prop := Claim7.holds Tryz.pinned (.plain (OpenSpec.upto optionsToldSpec)) optionsToldUptoCard
end Rows
end Go.Proofs.YtfolamkjlgpgmaaGreatDoor
