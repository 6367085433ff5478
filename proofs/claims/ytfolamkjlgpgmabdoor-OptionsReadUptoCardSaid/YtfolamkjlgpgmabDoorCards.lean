/-
  DERIVED. GIVEN WITH THE SEED: THE CARDS: each row of YtfolamkjlgpgmabDoorRows.lean that lists a variable, with what it lists TIED to the program's text (the seventh form; the later family's looks); each row that meets fmt, with fmt's text TOLD by the authors' own Lean function (tested against real Go, not proved from fmt's source: count such statements apart). THE CARD IS WHAT COUNTS. Prove the row's statement (the work); the ties are given (YtfolamkjlgpgmabDoorTie.lean); close each card by the builder's one call (the guide's Derived/Test/ToyasCard.lean, 'card_holds'). Laid BY PROGRAM, IN A SANDBOX (cutbox-door.mjs). By AI agents, Wed Nov 11 2026. No macro, syntax, notation, axiom, sorry.
-/
import Derived.Test.YtfolamkjlgpgmabDoorRows
import GoSem.ClaimSeven
namespace Go.Proofs.YtfolamkjlgpgmabDoor
namespace Rows

/-- THE TIED CARD OF 'sojournerlaw10.OptionsRead'. -/
def optionsReadCard : Claim7 := { stood := { row := optionsReadRow, standIns := [], harness := (true, "fa44faa8e729378e50cf4bd8fad415304a39120b9edb6a6a3bd12984a139de94"), looks := false }, kinds := [], alts := [], laidByText := true, laidKinds := [.data, .pinned], laidTests := true, laidLooks := .later }
def OptionsReadCardSaid : Prop := Claim7.holds Tryd.pinned (.plain (OpenSpec.ofChange optionsReadSpec)) optionsReadCard

/-- THE SECOND FORM's CARD OF 'sojournerlaw10.OptionsRead'. -/
def optionsReadUptoCard : Claim7 := { stood := { row := optionsReadUptoRow, standIns := [], harness := (true, "fa44faa8e729378e50cf4bd8fad415304a39120b9edb6a6a3bd12984a139de94"), looks := false }, kinds := [], alts := [], laidByText := true, laidKinds := [.data, .pinned], laidTests := true, laidLooks := .later }
def OptionsReadUptoCardSaid : Prop := Claim7.holds Tryd.pinned (.plain (OpenSpec.upto optionsReadSpec)) optionsReadUptoCard
end Rows
end Go.Proofs.YtfolamkjlgpgmabDoor
