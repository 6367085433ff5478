/-
  DERIVED. GIVEN WITH THE SEED: THE CARDS: each row of YthbkjhacnnoolaaDoorRows.lean that lists a variable, with what it lists TIED to the program's text (the seventh form; the later family's looks); each row that meets fmt, with fmt's text TOLD by the authors' own Lean function (tested against real Go, not proved from fmt's source: count such statements apart). THE CARD IS WHAT COUNTS. Prove the row's statement (the work); the ties are given (YthbkjhacnnoolaaDoorTie.lean); close each card by the builder's one call (the guide's Derived/Test/ToyasCard.lean, 'card_holds'). Laid BY PROGRAM, IN A SANDBOX (cutbox-door.mjs). By AI agents, Wed Nov 11 2026. No macro, syntax, notation, axiom, sorry.
-/
import Derived.Test.YthbkjhacnnoolaaDoorRows
import GoSem.ClaimSeven
namespace Go.Proofs.YthbkjhacnnoolaaDoor
namespace Rows

/-- THE TIED CARD OF 'sojournerlaw24.GroupsTwice'. -/
def groupsTwiceCard : Claim7 := { stood := { row := groupsTwiceRow, standIns := [], harness := (true, "6a392c354d5f6aa47acb48e77f933253570b341e19db28fb1a4bda2ed004cb64"), looks := false }, kinds := [], alts := [], laidByText := true, laidKinds := [.data], laidTests := true, laidLooks := .later }
def GroupsTwiceCardSaid : Prop := Claim7.holds Tryd.pinned (.plain (OpenSpec.ofChange groupsTwiceSpec)) groupsTwiceCard

/-- THE TIED CARD OF 'sojournerlaw24.GroupsDelay'. -/
def groupsDelayCard : Claim7 := { stood := { row := groupsDelayRow, standIns := [], harness := (true, "6a392c354d5f6aa47acb48e77f933253570b341e19db28fb1a4bda2ed004cb64"), looks := false }, kinds := [], alts := [], laidByText := true, laidKinds := [.data], laidTests := true, laidLooks := .later }
def GroupsDelayCardSaid : Prop := Claim7.holds Tryd.pinned (.plain (OpenSpec.ofChange groupsDelaySpec)) groupsDelayCard

/-- THE TIED CARD OF 'sojournerlaw24.GroupsCount'. -/
def groupsCountCard : Claim7 := { stood := { row := groupsCountRow, standIns := [], harness := (true, "6a392c354d5f6aa47acb48e77f933253570b341e19db28fb1a4bda2ed004cb64"), looks := false }, kinds := [], alts := [], laidByText := true, laidKinds := [.data], laidTests := true, laidLooks := .later }
def GroupsCountCardSaid : Prop := Claim7.holds Tryd.pinned (.plain (OpenSpec.ofChange groupsCountSpec)) groupsCountCard

/-- THE SECOND FORM's CARD OF 'sojournerlaw24.GroupsTwice'. -/
def groupsTwiceUptoCard : Claim7 := { stood := { row := groupsTwiceUptoRow, standIns := [], harness := (true, "6a392c354d5f6aa47acb48e77f933253570b341e19db28fb1a4bda2ed004cb64"), looks := false }, kinds := [], alts := [], laidByText := true, laidKinds := [.data], laidTests := true, laidLooks := .later }
def GroupsTwiceUptoCardSaid : Prop := Claim7.holds Tryd.pinned (.plain (OpenSpec.upto groupsTwiceSpec)) groupsTwiceUptoCard

/-- THE SECOND FORM's CARD OF 'sojournerlaw24.GroupsDelay'. -/
def groupsDelayUptoCard : Claim7 := { stood := { row := groupsDelayUptoRow, standIns := [], harness := (true, "6a392c354d5f6aa47acb48e77f933253570b341e19db28fb1a4bda2ed004cb64"), looks := false }, kinds := [], alts := [], laidByText := true, laidKinds := [.data], laidTests := true, laidLooks := .later }
def GroupsDelayUptoCardSaid : Prop := Claim7.holds Tryd.pinned (.plain (OpenSpec.upto groupsDelaySpec)) groupsDelayUptoCard

/-- THE SECOND FORM's CARD OF 'sojournerlaw24.GroupsCount'. -/
def groupsCountUptoCard : Claim7 := { stood := { row := groupsCountUptoRow, standIns := [], harness := (true, "6a392c354d5f6aa47acb48e77f933253570b341e19db28fb1a4bda2ed004cb64"), looks := false }, kinds := [], alts := [], laidByText := true, laidKinds := [.data], laidTests := true, laidLooks := .later }
def GroupsCountUptoCardSaid : Prop := Claim7.holds Tryd.pinned (.plain (OpenSpec.upto groupsCountSpec)) groupsCountUptoCard
end Rows
end Go.Proofs.YthbkjhacnnoolaaDoor
