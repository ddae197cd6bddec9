/-
  DERIVED. GIVEN WITH THE SEED: THE CARDS: each row of YtkljcdghbefceaaGreatDoorRows.lean that lists a variable, with what it lists TIED to the program's text (the seventh form; the later family's looks); each row that meets fmt, with fmt's text TOLD by the authors' own Lean function (tested against real Go, not proved from fmt's source: count such statements apart). THE CARD IS WHAT COUNTS. Prove the row's statement (the work); the ties are given (YtkljcdghbefceaaGreatDoorTie.lean); close each card by the builder's one call (the guide's Derived/Test/ToyasCard.lean, 'card_holds'). Laid BY PROGRAM, IN A SANDBOX (cutbox-door.mjs). By AI agents, Wed Nov 11 2026. No macro, syntax, notation, axiom, sorry.
-/
import Derived.Test.YtkljcdghbefceaaGreatDoorRows
import GoSem.ClaimSeven
namespace Go.Proofs.YtkljcdghbefceaaGreatDoor
namespace Rows

/-- THE TIED CARD OF 'laws.FnBestTime'. -/
def fnBestTimeCard : Claim7 := { stood := { row := fnBestTimeRow, standIns := [], harness := (true, "3c476bc01b2fc8d06f59f59ae0e352cff9cd9d092e87cce8c384c0c1ba13068e"), looks := true }, kinds := [], alts := [], laidByText := true, laidKinds := [.data], laidTests := true, laidLooks := .later }
def FnBestTimeCardSaid : Prop := Claim7.holds Tryz.pinned (.plain (OpenSpec.ofChange fnBestTimeSpec)) fnBestTimeCard

/-- THE SECOND FORM's CARD OF 'laws.FnBestTime'. -/
def fnBestTimeUptoCard : Claim7 := { stood := { row := fnBestTimeUptoRow, standIns := [], harness := (true, "3c476bc01b2fc8d06f59f59ae0e352cff9cd9d092e87cce8c384c0c1ba13068e"), looks := true }, kinds := [], alts := [], laidByText := true, laidKinds := [.data], laidTests := true, laidLooks := .later }
def FnBestTimeUptoCardSaid : Prop := Claim7.holds Tryz.pinned (.plain (OpenSpec.upto fnBestTimeSpec)) fnBestTimeUptoCard
end Rows
end Go.Proofs.YtkljcdghbefceaaGreatDoor
