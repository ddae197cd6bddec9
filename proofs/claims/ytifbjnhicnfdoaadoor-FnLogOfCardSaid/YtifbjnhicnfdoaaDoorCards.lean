/-
  DERIVED. GIVEN WITH THE SEED: THE CARDS: each row of YtifbjnhicnfdoaaDoorRows.lean that lists a variable, with what it lists TIED to the program's text (the seventh form; the later family's looks); each row that meets fmt, with fmt's text TOLD by the authors' own Lean function (tested against real Go, not proved from fmt's source: count such statements apart). THE CARD IS WHAT COUNTS. Prove the row's statement (the work); the ties are given (YtifbjnhicnfdoaaDoorTie.lean); close each card by the builder's one call (the guide's Derived/Test/ToyasCard.lean, 'card_holds'). Laid BY PROGRAM, IN A SANDBOX (cutbox-door.mjs). By AI agents, Wed Nov 11 2026. No macro, syntax, notation, axiom, sorry.
-/
import Derived.Test.YtifbjnhicnfdoaaDoorRows
import GoSem.ClaimSeven
namespace Go.Proofs.YtifbjnhicnfdoaaDoor
namespace Rows

/-- THE TIED CARD OF 'laws.FnLogOfTimes'. -/
def fnLogOfTimesCard : Claim7 := { stood := { row := fnLogOfTimesRow, standIns := [], harness := (true, "58305cfd14b1542ee6dd5e07d50c519f7005f29a134a6799d1ad56abd8c9246d"), looks := true }, kinds := [], alts := [], laidByText := true, laidKinds := [.data], laidTests := true, laidLooks := .later }
def FnLogOfTimesCardSaid : Prop := Claim7.holds Tryd.pinned (.plain (OpenSpec.ofChange fnLogOfTimesSpec)) fnLogOfTimesCard

/-- THE TIED CARD OF 'laws.FnLogOf'. -/
def fnLogOfCard : Claim7 := { stood := { row := fnLogOfRow, standIns := [], harness := (true, "58305cfd14b1542ee6dd5e07d50c519f7005f29a134a6799d1ad56abd8c9246d"), looks := true }, kinds := [], alts := [], laidByText := true, laidKinds := [.data], laidTests := true, laidLooks := .later }
def FnLogOfCardSaid : Prop := Claim7.holds Tryd.pinned (.plain (OpenSpec.ofChange fnLogOfSpec)) fnLogOfCard

/-- THE TIED CARD OF 'laws.FnLateTasksUsers'. -/
def fnLateTasksUsersCard : Claim7 := { stood := { row := fnLateTasksUsersRow, standIns := [], harness := (true, "58305cfd14b1542ee6dd5e07d50c519f7005f29a134a6799d1ad56abd8c9246d"), looks := true }, kinds := [], alts := [], laidByText := true, laidKinds := [.data], laidTests := true, laidLooks := .later }
def FnLateTasksUsersCardSaid : Prop := Claim7.holds Tryd.pinned (.plain (OpenSpec.ofChange fnLateTasksUsersSpec)) fnLateTasksUsersCard

/-- THE TIED CARD OF 'laws.FnLateTasks'. -/
def fnLateTasksCard : Claim7 := { stood := { row := fnLateTasksRow, standIns := [], harness := (true, "58305cfd14b1542ee6dd5e07d50c519f7005f29a134a6799d1ad56abd8c9246d"), looks := true }, kinds := [], alts := [], laidByText := true, laidKinds := [.data], laidTests := true, laidLooks := .later }
def FnLateTasksCardSaid : Prop := Claim7.holds Tryd.pinned (.plain (OpenSpec.ofChange fnLateTasksSpec)) fnLateTasksCard

/-- THE TIED CARD OF 'laws.FnLateTasksLast'. -/
def fnLateTasksLastCard : Claim7 := { stood := { row := fnLateTasksLastRow, standIns := [], harness := (true, "58305cfd14b1542ee6dd5e07d50c519f7005f29a134a6799d1ad56abd8c9246d"), looks := true }, kinds := [], alts := [], laidByText := true, laidKinds := [.data], laidTests := true, laidLooks := .later }
def FnLateTasksLastCardSaid : Prop := Claim7.holds Tryd.pinned (.plain (OpenSpec.ofChange fnLateTasksLastSpec)) fnLateTasksLastCard

/-- THE TIED CARD OF 'laws.FnMostTogetherWorkers'. -/
def fnMostTogetherWorkersCard : Claim7 := { stood := { row := fnMostTogetherWorkersRow, standIns := [], harness := (true, "58305cfd14b1542ee6dd5e07d50c519f7005f29a134a6799d1ad56abd8c9246d"), looks := true }, kinds := [], alts := [], laidByText := true, laidKinds := [.data], laidTests := true, laidLooks := .later }
def FnMostTogetherWorkersCardSaid : Prop := Claim7.holds Tryd.pinned (.plain (OpenSpec.ofChange fnMostTogetherWorkersSpec)) fnMostTogetherWorkersCard

/-- THE TIED CARD OF 'laws.FnDoneByLog'. -/
def fnDoneByLogCard : Claim7 := { stood := { row := fnDoneByLogRow, standIns := [], harness := (true, "58305cfd14b1542ee6dd5e07d50c519f7005f29a134a6799d1ad56abd8c9246d"), looks := true }, kinds := [], alts := [], laidByText := true, laidKinds := [.data], laidTests := true, laidLooks := .later }
def FnDoneByLogCardSaid : Prop := Claim7.holds Tryd.pinned (.plain (OpenSpec.ofChange fnDoneByLogSpec)) fnDoneByLogCard

/-- THE TIED CARD OF 'laws.FnPlanStarts'. -/
def fnPlanStartsCard : Claim7 := { stood := { row := fnPlanStartsRow, standIns := [], harness := (true, "58305cfd14b1542ee6dd5e07d50c519f7005f29a134a6799d1ad56abd8c9246d"), looks := true }, kinds := [], alts := [], laidByText := true, laidKinds := [.data], laidTests := true, laidLooks := .later }
def FnPlanStartsCardSaid : Prop := Claim7.holds Tryd.pinned (.plain (OpenSpec.ofChange fnPlanStartsSpec)) fnPlanStartsCard

/-- THE TIED CARD OF 'laws.FnDoneByEnd'. -/
def fnDoneByEndCard : Claim7 := { stood := { row := fnDoneByEndRow, standIns := [], harness := (true, "58305cfd14b1542ee6dd5e07d50c519f7005f29a134a6799d1ad56abd8c9246d"), looks := true }, kinds := [], alts := [], laidByText := true, laidKinds := [.data], laidTests := true, laidLooks := .later }
def FnDoneByEndCardSaid : Prop := Claim7.holds Tryd.pinned (.plain (OpenSpec.ofChange fnDoneByEndSpec)) fnDoneByEndCard

/-- THE TIED CARD OF 'laws.FnPlanStartsOne'. -/
def fnPlanStartsOneCard : Claim7 := { stood := { row := fnPlanStartsOneRow, standIns := [], harness := (true, "58305cfd14b1542ee6dd5e07d50c519f7005f29a134a6799d1ad56abd8c9246d"), looks := true }, kinds := [], alts := [], laidByText := true, laidKinds := [.data], laidTests := true, laidLooks := .later }
def FnPlanStartsOneCardSaid : Prop := Claim7.holds Tryd.pinned (.plain (OpenSpec.ofChange fnPlanStartsOneSpec)) fnPlanStartsOneCard

/-- THE TIED CARD OF 'laws.FnWorkersFor'. -/
def fnWorkersForCard : Claim7 := { stood := { row := fnWorkersForRow, standIns := [], harness := (true, "58305cfd14b1542ee6dd5e07d50c519f7005f29a134a6799d1ad56abd8c9246d"), looks := true }, kinds := [], alts := [], laidByText := true, laidKinds := [.data], laidTests := true, laidLooks := .later }
def FnWorkersForCardSaid : Prop := Claim7.holds Tryd.pinned (.plain (OpenSpec.ofChange fnWorkersForSpec)) fnWorkersForCard

/-- THE TIED CARD OF 'laws.FnPlanStartsTwice'. -/
def fnPlanStartsTwiceCard : Claim7 := { stood := { row := fnPlanStartsTwiceRow, standIns := [], harness := (true, "58305cfd14b1542ee6dd5e07d50c519f7005f29a134a6799d1ad56abd8c9246d"), looks := true }, kinds := [], alts := [], laidByText := true, laidKinds := [.data], laidTests := true, laidLooks := .later }
def FnPlanStartsTwiceCardSaid : Prop := Claim7.holds Tryd.pinned (.plain (OpenSpec.ofChange fnPlanStartsTwiceSpec)) fnPlanStartsTwiceCard

/-- THE TIED CARD OF 'laws.FnPlanStartsBusy'. -/
def fnPlanStartsBusyCard : Claim7 := { stood := { row := fnPlanStartsBusyRow, standIns := [], harness := (true, "58305cfd14b1542ee6dd5e07d50c519f7005f29a134a6799d1ad56abd8c9246d"), looks := true }, kinds := [], alts := [], laidByText := true, laidKinds := [.data], laidTests := true, laidLooks := .later }
def FnPlanStartsBusyCardSaid : Prop := Claim7.holds Tryd.pinned (.plain (OpenSpec.ofChange fnPlanStartsBusySpec)) fnPlanStartsBusyCard

/-- THE SECOND FORM's CARD OF 'laws.FnLogOfTimes'. -/
def fnLogOfTimesUptoCard : Claim7 := { stood := { row := fnLogOfTimesUptoRow, standIns := [], harness := (true, "58305cfd14b1542ee6dd5e07d50c519f7005f29a134a6799d1ad56abd8c9246d"), looks := true }, kinds := [], alts := [], laidByText := true, laidKinds := [.data], laidTests := true, laidLooks := .later }
def FnLogOfTimesUptoCardSaid : Prop := Claim7.holds Tryd.pinned (.plain (OpenSpec.upto fnLogOfTimesSpec)) fnLogOfTimesUptoCard

/-- THE SECOND FORM's CARD OF 'laws.FnLogOf'. -/
def fnLogOfUptoCard : Claim7 := { stood := { row := fnLogOfUptoRow, standIns := [], harness := (true, "58305cfd14b1542ee6dd5e07d50c519f7005f29a134a6799d1ad56abd8c9246d"), looks := true }, kinds := [], alts := [], laidByText := true, laidKinds := [.data], laidTests := true, laidLooks := .later }
def FnLogOfUptoCardSaid : Prop := Claim7.holds Tryd.pinned (.plain (OpenSpec.upto fnLogOfSpec)) fnLogOfUptoCard

/-- THE SECOND FORM's CARD OF 'laws.FnLateTasksUsers'. -/
def fnLateTasksUsersUptoCard : Claim7 := { stood := { row := fnLateTasksUsersUptoRow, standIns := [], harness := (true, "58305cfd14b1542ee6dd5e07d50c519f7005f29a134a6799d1ad56abd8c9246d"), looks := true }, kinds := [], alts := [], laidByText := true, laidKinds := [.data], laidTests := true, laidLooks := .later }
def FnLateTasksUsersUptoCardSaid : Prop := Claim7.holds Tryd.pinned (.plain (OpenSpec.upto fnLateTasksUsersSpec)) fnLateTasksUsersUptoCard

/-- THE SECOND FORM's CARD OF 'laws.FnLateTasks'. -/
def fnLateTasksUptoCard : Claim7 := { stood := { row := fnLateTasksUptoRow, standIns := [], harness := (true, "58305cfd14b1542ee6dd5e07d50c519f7005f29a134a6799d1ad56abd8c9246d"), looks := true }, kinds := [], alts := [], laidByText := true, laidKinds := [.data], laidTests := true, laidLooks := .later }
def FnLateTasksUptoCardSaid : Prop := Claim7.holds Tryd.pinned (.plain (OpenSpec.upto fnLateTasksSpec)) fnLateTasksUptoCard

/-- THE SECOND FORM's CARD OF 'laws.FnLateTasksLast'. -/
def fnLateTasksLastUptoCard : Claim7 := { stood := { row := fnLateTasksLastUptoRow, standIns := [], harness := (true, "58305cfd14b1542ee6dd5e07d50c519f7005f29a134a6799d1ad56abd8c9246d"), looks := true }, kinds := [], alts := [], laidByText := true, laidKinds := [.data], laidTests := true, laidLooks := .later }
def FnLateTasksLastUptoCardSaid : Prop := Claim7.holds Tryd.pinned (.plain (OpenSpec.upto fnLateTasksLastSpec)) fnLateTasksLastUptoCard

/-- THE SECOND FORM's CARD OF 'laws.FnMostTogetherWorkers'. -/
def fnMostTogetherWorkersUptoCard : Claim7 := { stood := { row := fnMostTogetherWorkersUptoRow, standIns := [], harness := (true, "58305cfd14b1542ee6dd5e07d50c519f7005f29a134a6799d1ad56abd8c9246d"), looks := true }, kinds := [], alts := [], laidByText := true, laidKinds := [.data], laidTests := true, laidLooks := .later }
def FnMostTogetherWorkersUptoCardSaid : Prop := Claim7.holds Tryd.pinned (.plain (OpenSpec.upto fnMostTogetherWorkersSpec)) fnMostTogetherWorkersUptoCard

/-- THE SECOND FORM's CARD OF 'laws.FnDoneByLog'. -/
def fnDoneByLogUptoCard : Claim7 := { stood := { row := fnDoneByLogUptoRow, standIns := [], harness := (true, "58305cfd14b1542ee6dd5e07d50c519f7005f29a134a6799d1ad56abd8c9246d"), looks := true }, kinds := [], alts := [], laidByText := true, laidKinds := [.data], laidTests := true, laidLooks := .later }
def FnDoneByLogUptoCardSaid : Prop := Claim7.holds Tryd.pinned (.plain (OpenSpec.upto fnDoneByLogSpec)) fnDoneByLogUptoCard

/-- THE SECOND FORM's CARD OF 'laws.FnPlanStarts'. -/
def fnPlanStartsUptoCard : Claim7 := { stood := { row := fnPlanStartsUptoRow, standIns := [], harness := (true, "58305cfd14b1542ee6dd5e07d50c519f7005f29a134a6799d1ad56abd8c9246d"), looks := true }, kinds := [], alts := [], laidByText := true, laidKinds := [.data], laidTests := true, laidLooks := .later }
def FnPlanStartsUptoCardSaid : Prop := Claim7.holds Tryd.pinned (.plain (OpenSpec.upto fnPlanStartsSpec)) fnPlanStartsUptoCard

/-- THE SECOND FORM's CARD OF 'laws.FnDoneByEnd'. -/
def fnDoneByEndUptoCard : Claim7 := { stood := { row := fnDoneByEndUptoRow, standIns := [], harness := (true, "58305cfd14b1542ee6dd5e07d50c519f7005f29a134a6799d1ad56abd8c9246d"), looks := true }, kinds := [], alts := [], laidByText := true, laidKinds := [.data], laidTests := true, laidLooks := .later }
def FnDoneByEndUptoCardSaid : Prop := Claim7.holds Tryd.pinned (.plain (OpenSpec.upto fnDoneByEndSpec)) fnDoneByEndUptoCard

/-- THE SECOND FORM's CARD OF 'laws.FnPlanStartsOne'. -/
def fnPlanStartsOneUptoCard : Claim7 := { stood := { row := fnPlanStartsOneUptoRow, standIns := [], harness := (true, "58305cfd14b1542ee6dd5e07d50c519f7005f29a134a6799d1ad56abd8c9246d"), looks := true }, kinds := [], alts := [], laidByText := true, laidKinds := [.data], laidTests := true, laidLooks := .later }
def FnPlanStartsOneUptoCardSaid : Prop := Claim7.holds Tryd.pinned (.plain (OpenSpec.upto fnPlanStartsOneSpec)) fnPlanStartsOneUptoCard

/-- THE SECOND FORM's CARD OF 'laws.FnWorkersFor'. -/
def fnWorkersForUptoCard : Claim7 := { stood := { row := fnWorkersForUptoRow, standIns := [], harness := (true, "58305cfd14b1542ee6dd5e07d50c519f7005f29a134a6799d1ad56abd8c9246d"), looks := true }, kinds := [], alts := [], laidByText := true, laidKinds := [.data], laidTests := true, laidLooks := .later }
def FnWorkersForUptoCardSaid : Prop := Claim7.holds Tryd.pinned (.plain (OpenSpec.upto fnWorkersForSpec)) fnWorkersForUptoCard

/-- THE SECOND FORM's CARD OF 'laws.FnPlanStartsTwice'. -/
def fnPlanStartsTwiceUptoCard : Claim7 := { stood := { row := fnPlanStartsTwiceUptoRow, standIns := [], harness := (true, "58305cfd14b1542ee6dd5e07d50c519f7005f29a134a6799d1ad56abd8c9246d"), looks := true }, kinds := [], alts := [], laidByText := true, laidKinds := [.data], laidTests := true, laidLooks := .later }
def FnPlanStartsTwiceUptoCardSaid : Prop := Claim7.holds Tryd.pinned (.plain (OpenSpec.upto fnPlanStartsTwiceSpec)) fnPlanStartsTwiceUptoCard

/-- THE SECOND FORM's CARD OF 'laws.FnPlanStartsBusy'. -/
def fnPlanStartsBusyUptoCard : Claim7 := { stood := { row := fnPlanStartsBusyUptoRow, standIns := [], harness := (true, "58305cfd14b1542ee6dd5e07d50c519f7005f29a134a6799d1ad56abd8c9246d"), looks := true }, kinds := [], alts := [], laidByText := true, laidKinds := [.data], laidTests := true, laidLooks := .later }
def FnPlanStartsBusyUptoCardSaid : Prop := Claim7.holds Tryd.pinned (.plain (OpenSpec.upto fnPlanStartsBusySpec)) fnPlanStartsBusyUptoCard
end Rows
end Go.Proofs.YtifbjnhicnfdoaaDoor
