/-
  DERIVED. GIVEN WITH THE SEED: THE CARDS: each row of YtpmfghbjkampkaaDoorRows.lean that lists a variable, with what it lists TIED to the program's text (the seventh form; the later family's looks); each row that meets fmt, with fmt's text TOLD by the authors' own Lean function (tested against real Go, not proved from fmt's source: count such statements apart). THE CARD IS WHAT COUNTS. Prove the row's statement (the work); the ties are given (YtpmfghbjkampkaaDoorTie.lean); close each card by the builder's one call (the guide's Derived/Test/ToyasCard.lean, 'card_holds'). Laid BY PROGRAM, IN A SANDBOX (cutbox-door.mjs). By AI agents, Wed Nov 11 2026. No macro, syntax, notation, axiom, sorry.
-/
import Derived.Test.YtpmfghbjkampkaaDoorRows
import GoSem.ClaimSeven
namespace Go.Proofs.YtpmfghbjkampkaaDoor
namespace Rows

/-- THE TIED CARD OF 'laws.FnExactWorkersFor'. -/
def fnExactWorkersForCard : Claim7 := { stood := { row := fnExactWorkersForRow, standIns := [], harness := (true, "9627d39cf004ce2ddc2025a53aa459164e0b7894b5fa9f4f19b15777cdfb39e0"), looks := true }, kinds := [], alts := [], laidByText := true, laidKinds := [.data], laidTests := true, laidLooks := .later }
def FnExactWorkersForCardSaid : Prop := Claim7.holds Tryd.pinned (.plain (OpenSpec.ofChange fnExactWorkersForSpec)) fnExactWorkersForCard

/-- THE TIED CARD OF 'laws.FnExactPlanStarts'. -/
def fnExactPlanStartsCard : Claim7 := { stood := { row := fnExactPlanStartsRow, standIns := [], harness := (true, "9627d39cf004ce2ddc2025a53aa459164e0b7894b5fa9f4f19b15777cdfb39e0"), looks := true }, kinds := [], alts := [], laidByText := true, laidKinds := [.data], laidTests := true, laidLooks := .later }
def FnExactPlanStartsCardSaid : Prop := Claim7.holds Tryd.pinned (.plain (OpenSpec.ofChange fnExactPlanStartsSpec)) fnExactPlanStartsCard

/-- THE TIED CARD OF 'laws.FnWorkersForLater'. -/
def fnWorkersForLaterCard : Claim7 := { stood := { row := fnWorkersForLaterRow, standIns := [], harness := (true, "9627d39cf004ce2ddc2025a53aa459164e0b7894b5fa9f4f19b15777cdfb39e0"), looks := true }, kinds := [], alts := [], laidByText := true, laidKinds := [.data], laidTests := true, laidLooks := .later }
def FnWorkersForLaterCardSaid : Prop := Claim7.holds Tryd.pinned (.plain (OpenSpec.ofChange fnWorkersForLaterSpec)) fnWorkersForLaterCard

/-- THE TIED CARD OF 'laws.FnDoneBy'. -/
def fnDoneByCard : Claim7 := { stood := { row := fnDoneByRow, standIns := [], harness := (true, "9627d39cf004ce2ddc2025a53aa459164e0b7894b5fa9f4f19b15777cdfb39e0"), looks := true }, kinds := [], alts := [], laidByText := true, laidKinds := [.data], laidTests := true, laidLooks := .later }
def FnDoneByCardSaid : Prop := Claim7.holds Tryd.pinned (.plain (OpenSpec.ofChange fnDoneBySpec)) fnDoneByCard

/-- THE TIED CARD OF 'laws.FnPlanStartsFirst'. -/
def fnPlanStartsFirstCard : Claim7 := { stood := { row := fnPlanStartsFirstRow, standIns := [], harness := (true, "9627d39cf004ce2ddc2025a53aa459164e0b7894b5fa9f4f19b15777cdfb39e0"), looks := true }, kinds := [], alts := [], laidByText := true, laidKinds := [.data], laidTests := true, laidLooks := .later }
def FnPlanStartsFirstCardSaid : Prop := Claim7.holds Tryd.pinned (.plain (OpenSpec.ofChange fnPlanStartsFirstSpec)) fnPlanStartsFirstCard

/-- THE TIED CARD OF 'laws.FnOrderStartsPlan'. -/
def fnOrderStartsPlanCard : Claim7 := { stood := { row := fnOrderStartsPlanRow, standIns := [], harness := (true, "9627d39cf004ce2ddc2025a53aa459164e0b7894b5fa9f4f19b15777cdfb39e0"), looks := true }, kinds := [], alts := [], laidByText := true, laidKinds := [.data], laidTests := true, laidLooks := .later }
def FnOrderStartsPlanCardSaid : Prop := Claim7.holds Tryd.pinned (.plain (OpenSpec.ofChange fnOrderStartsPlanSpec)) fnOrderStartsPlanCard

/-- THE TIED CARD OF 'laws.FnWorkersForOne'. -/
def fnWorkersForOneCard : Claim7 := { stood := { row := fnWorkersForOneRow, standIns := [], harness := (true, "9627d39cf004ce2ddc2025a53aa459164e0b7894b5fa9f4f19b15777cdfb39e0"), looks := true }, kinds := [], alts := [], laidByText := true, laidKinds := [.data], laidTests := true, laidLooks := .later }
def FnWorkersForOneCardSaid : Prop := Claim7.holds Tryd.pinned (.plain (OpenSpec.ofChange fnWorkersForOneSpec)) fnWorkersForOneCard

/-- THE SECOND FORM's CARD OF 'laws.FnExactWorkersFor'. -/
def fnExactWorkersForUptoCard : Claim7 := { stood := { row := fnExactWorkersForUptoRow, standIns := [], harness := (true, "9627d39cf004ce2ddc2025a53aa459164e0b7894b5fa9f4f19b15777cdfb39e0"), looks := true }, kinds := [], alts := [], laidByText := true, laidKinds := [.data], laidTests := true, laidLooks := .later }
def FnExactWorkersForUptoCardSaid : Prop := Claim7.holds Tryd.pinned (.plain (OpenSpec.upto fnExactWorkersForSpec)) fnExactWorkersForUptoCard

/-- THE SECOND FORM's CARD OF 'laws.FnExactPlanStarts'. -/
def fnExactPlanStartsUptoCard : Claim7 := { stood := { row := fnExactPlanStartsUptoRow, standIns := [], harness := (true, "9627d39cf004ce2ddc2025a53aa459164e0b7894b5fa9f4f19b15777cdfb39e0"), looks := true }, kinds := [], alts := [], laidByText := true, laidKinds := [.data], laidTests := true, laidLooks := .later }
def FnExactPlanStartsUptoCardSaid : Prop := Claim7.holds Tryd.pinned (.plain (OpenSpec.upto fnExactPlanStartsSpec)) fnExactPlanStartsUptoCard

/-- THE SECOND FORM's CARD OF 'laws.FnWorkersForLater'. -/
def fnWorkersForLaterUptoCard : Claim7 := { stood := { row := fnWorkersForLaterUptoRow, standIns := [], harness := (true, "9627d39cf004ce2ddc2025a53aa459164e0b7894b5fa9f4f19b15777cdfb39e0"), looks := true }, kinds := [], alts := [], laidByText := true, laidKinds := [.data], laidTests := true, laidLooks := .later }
def FnWorkersForLaterUptoCardSaid : Prop := Claim7.holds Tryd.pinned (.plain (OpenSpec.upto fnWorkersForLaterSpec)) fnWorkersForLaterUptoCard

/-- THE SECOND FORM's CARD OF 'laws.FnDoneBy'. -/
def fnDoneByUptoCard : Claim7 := { stood := { row := fnDoneByUptoRow, standIns := [], harness := (true, "9627d39cf004ce2ddc2025a53aa459164e0b7894b5fa9f4f19b15777cdfb39e0"), looks := true }, kinds := [], alts := [], laidByText := true, laidKinds := [.data], laidTests := true, laidLooks := .later }
def FnDoneByUptoCardSaid : Prop := Claim7.holds Tryd.pinned (.plain (OpenSpec.upto fnDoneBySpec)) fnDoneByUptoCard

/-- THE SECOND FORM's CARD OF 'laws.FnPlanStartsFirst'. -/
def fnPlanStartsFirstUptoCard : Claim7 := { stood := { row := fnPlanStartsFirstUptoRow, standIns := [], harness := (true, "9627d39cf004ce2ddc2025a53aa459164e0b7894b5fa9f4f19b15777cdfb39e0"), looks := true }, kinds := [], alts := [], laidByText := true, laidKinds := [.data], laidTests := true, laidLooks := .later }
def FnPlanStartsFirstUptoCardSaid : Prop := Claim7.holds Tryd.pinned (.plain (OpenSpec.upto fnPlanStartsFirstSpec)) fnPlanStartsFirstUptoCard

/-- THE SECOND FORM's CARD OF 'laws.FnOrderStartsPlan'. -/
def fnOrderStartsPlanUptoCard : Claim7 := { stood := { row := fnOrderStartsPlanUptoRow, standIns := [], harness := (true, "9627d39cf004ce2ddc2025a53aa459164e0b7894b5fa9f4f19b15777cdfb39e0"), looks := true }, kinds := [], alts := [], laidByText := true, laidKinds := [.data], laidTests := true, laidLooks := .later }
def FnOrderStartsPlanUptoCardSaid : Prop := Claim7.holds Tryd.pinned (.plain (OpenSpec.upto fnOrderStartsPlanSpec)) fnOrderStartsPlanUptoCard

/-- THE SECOND FORM's CARD OF 'laws.FnWorkersForOne'. -/
def fnWorkersForOneUptoCard : Claim7 := { stood := { row := fnWorkersForOneUptoRow, standIns := [], harness := (true, "9627d39cf004ce2ddc2025a53aa459164e0b7894b5fa9f4f19b15777cdfb39e0"), looks := true }, kinds := [], alts := [], laidByText := true, laidKinds := [.data], laidTests := true, laidLooks := .later }
def FnWorkersForOneUptoCardSaid : Prop := Claim7.holds Tryd.pinned (.plain (OpenSpec.upto fnWorkersForOneSpec)) fnWorkersForOneUptoCard
end Rows
end Go.Proofs.YtpmfghbjkampkaaDoor
