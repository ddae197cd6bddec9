/-
  DERIVED. GIVEN WITH THE SEED: THE CARDS: each row of YtdjdfbfcjajlkaaDoorRows.lean that lists a variable, with what it lists TIED to the program's text (the seventh form; the later family's looks); each row that meets fmt, with fmt's text TOLD by the authors' own Lean function (tested against real Go, not proved from fmt's source: count such statements apart). THE CARD IS WHAT COUNTS. Prove the row's statement (the work); the ties are given (YtdjdfbfcjajlkaaDoorTie.lean); close each card by the builder's one call (the guide's Derived/Test/ToyasCard.lean, 'card_holds'). Laid BY PROGRAM, IN A SANDBOX (cutbox-door.mjs). By AI agents, Wed Nov 11 2026. No macro, syntax, notation, axiom, sorry.
-/
import Derived.Test.YtdjdfbfcjajlkaaDoorRows
import GoSem.ClaimSeven
namespace Go.Proofs.YtdjdfbfcjajlkaaDoor
namespace Rows

/-- THE TIED CARD OF 'laws.FnExactWorkersFor'. -/
def fnExactWorkersForCard : Claim7 := { stood := { row := fnExactWorkersForRow, standIns := [], harness := (true, "37d122861b5ec1871380f20c550d25a64537571dcb9689e04e0b4be772f43c0c"), looks := true }, kinds := [], alts := [], laidByText := true, laidKinds := [.data], laidTests := true, laidLooks := .later }
def FnExactWorkersForCardSaid : Prop := Claim7.holds Tryd.pinned (.plain (OpenSpec.ofChange fnExactWorkersForSpec)) fnExactWorkersForCard

/-- THE TIED CARD OF 'laws.FnExactPlanStarts'. -/
def fnExactPlanStartsCard : Claim7 := { stood := { row := fnExactPlanStartsRow, standIns := [], harness := (true, "37d122861b5ec1871380f20c550d25a64537571dcb9689e04e0b4be772f43c0c"), looks := true }, kinds := [], alts := [], laidByText := true, laidKinds := [.data], laidTests := true, laidLooks := .later }
def FnExactPlanStartsCardSaid : Prop := Claim7.holds Tryd.pinned (.plain (OpenSpec.ofChange fnExactPlanStartsSpec)) fnExactPlanStartsCard

/-- THE TIED CARD OF 'laws.FnExactValidStarts'. -/
def fnExactValidStartsCard : Claim7 := { stood := { row := fnExactValidStartsRow, standIns := [], harness := (true, "37d122861b5ec1871380f20c550d25a64537571dcb9689e04e0b4be772f43c0c"), looks := true }, kinds := [], alts := [], laidByText := true, laidKinds := [.data], laidTests := true, laidLooks := .later }
def FnExactValidStartsCardSaid : Prop := Claim7.holds Tryd.pinned (.plain (OpenSpec.ofChange fnExactValidStartsSpec)) fnExactValidStartsCard

/-- THE TIED CARD OF 'laws.FnExactMeetsDeadline'. -/
def fnExactMeetsDeadlineCard : Claim7 := { stood := { row := fnExactMeetsDeadlineRow, standIns := [], harness := (true, "37d122861b5ec1871380f20c550d25a64537571dcb9689e04e0b4be772f43c0c"), looks := true }, kinds := [], alts := [], laidByText := true, laidKinds := [.data], laidTests := true, laidLooks := .later }
def FnExactMeetsDeadlineCardSaid : Prop := Claim7.holds Tryd.pinned (.plain (OpenSpec.ofChange fnExactMeetsDeadlineSpec)) fnExactMeetsDeadlineCard

/-- THE TIED CARD OF 'laws.FnExactEndTime'. -/
def fnExactEndTimeCard : Claim7 := { stood := { row := fnExactEndTimeRow, standIns := [], harness := (true, "37d122861b5ec1871380f20c550d25a64537571dcb9689e04e0b4be772f43c0c"), looks := true }, kinds := [], alts := [], laidByText := true, laidKinds := [.data], laidTests := true, laidLooks := .later }
def FnExactEndTimeCardSaid : Prop := Claim7.holds Tryd.pinned (.plain (OpenSpec.ofChange fnExactEndTimeSpec)) fnExactEndTimeCard

/-- THE TIED CARD OF 'laws.FnExactRunningAt'. -/
def fnExactRunningAtCard : Claim7 := { stood := { row := fnExactRunningAtRow, standIns := [], harness := (true, "37d122861b5ec1871380f20c550d25a64537571dcb9689e04e0b4be772f43c0c"), looks := true }, kinds := [], alts := [], laidByText := true, laidKinds := [.data], laidTests := true, laidLooks := .later }
def FnExactRunningAtCardSaid : Prop := Claim7.holds Tryd.pinned (.plain (OpenSpec.ofChange fnExactRunningAtSpec)) fnExactRunningAtCard

/-- THE TIED CARD OF 'laws.FnExactCancelAt'. -/
def fnExactCancelAtCard : Claim7 := { stood := { row := fnExactCancelAtRow, standIns := [], harness := (true, "37d122861b5ec1871380f20c550d25a64537571dcb9689e04e0b4be772f43c0c"), looks := true }, kinds := [], alts := [], laidByText := true, laidKinds := [.data], laidTests := true, laidLooks := .later }
def FnExactCancelAtCardSaid : Prop := Claim7.holds Tryd.pinned (.plain (OpenSpec.ofChange fnExactCancelAtSpec)) fnExactCancelAtCard

/-- THE TIED CARD OF 'laws.FnExactLogOf'. -/
def fnExactLogOfCard : Claim7 := { stood := { row := fnExactLogOfRow, standIns := [], harness := (true, "37d122861b5ec1871380f20c550d25a64537571dcb9689e04e0b4be772f43c0c"), looks := true }, kinds := [], alts := [], laidByText := true, laidKinds := [.data], laidTests := true, laidLooks := .later }
def FnExactLogOfCardSaid : Prop := Claim7.holds Tryd.pinned (.plain (OpenSpec.ofChange fnExactLogOfSpec)) fnExactLogOfCard

/-- THE TIED CARD OF 'laws.FnExactLateTasks'. -/
def fnExactLateTasksCard : Claim7 := { stood := { row := fnExactLateTasksRow, standIns := [], harness := (true, "37d122861b5ec1871380f20c550d25a64537571dcb9689e04e0b4be772f43c0c"), looks := true }, kinds := [], alts := [], laidByText := true, laidKinds := [.data], laidTests := true, laidLooks := .later }
def FnExactLateTasksCardSaid : Prop := Claim7.holds Tryd.pinned (.plain (OpenSpec.ofChange fnExactLateTasksSpec)) fnExactLateTasksCard

/-- THE TIED CARD OF 'laws.FnEndTimeLeast'. -/
def fnEndTimeLeastCard : Claim7 := { stood := { row := fnEndTimeLeastRow, standIns := [], harness := (true, "37d122861b5ec1871380f20c550d25a64537571dcb9689e04e0b4be772f43c0c"), looks := true }, kinds := [], alts := [], laidByText := true, laidKinds := [.data], laidTests := true, laidLooks := .later }
def FnEndTimeLeastCardSaid : Prop := Claim7.holds Tryd.pinned (.plain (OpenSpec.ofChange fnEndTimeLeastSpec)) fnEndTimeLeastCard

/-- THE TIED CARD OF 'laws.FnLeastTimeMore'. -/
def fnLeastTimeMoreCard : Claim7 := { stood := { row := fnLeastTimeMoreRow, standIns := [], harness := (true, "37d122861b5ec1871380f20c550d25a64537571dcb9689e04e0b4be772f43c0c"), looks := true }, kinds := [], alts := [], laidByText := true, laidKinds := [.data], laidTests := true, laidLooks := .later }
def FnLeastTimeMoreCardSaid : Prop := Claim7.holds Tryd.pinned (.plain (OpenSpec.ofChange fnLeastTimeMoreSpec)) fnLeastTimeMoreCard

/-- THE SECOND FORM's CARD OF 'laws.FnExactWorkersFor'. -/
def fnExactWorkersForUptoCard : Claim7 := { stood := { row := fnExactWorkersForUptoRow, standIns := [], harness := (true, "37d122861b5ec1871380f20c550d25a64537571dcb9689e04e0b4be772f43c0c"), looks := true }, kinds := [], alts := [], laidByText := true, laidKinds := [.data], laidTests := true, laidLooks := .later }
def FnExactWorkersForUptoCardSaid : Prop := Claim7.holds Tryd.pinned (.plain (OpenSpec.upto fnExactWorkersForSpec)) fnExactWorkersForUptoCard

/-- THE SECOND FORM's CARD OF 'laws.FnExactPlanStarts'. -/
def fnExactPlanStartsUptoCard : Claim7 := { stood := { row := fnExactPlanStartsUptoRow, standIns := [], harness := (true, "37d122861b5ec1871380f20c550d25a64537571dcb9689e04e0b4be772f43c0c"), looks := true }, kinds := [], alts := [], laidByText := true, laidKinds := [.data], laidTests := true, laidLooks := .later }
def FnExactPlanStartsUptoCardSaid : Prop := Claim7.holds Tryd.pinned (.plain (OpenSpec.upto fnExactPlanStartsSpec)) fnExactPlanStartsUptoCard

/-- THE SECOND FORM's CARD OF 'laws.FnExactValidStarts'. -/
def fnExactValidStartsUptoCard : Claim7 := { stood := { row := fnExactValidStartsUptoRow, standIns := [], harness := (true, "37d122861b5ec1871380f20c550d25a64537571dcb9689e04e0b4be772f43c0c"), looks := true }, kinds := [], alts := [], laidByText := true, laidKinds := [.data], laidTests := true, laidLooks := .later }
def FnExactValidStartsUptoCardSaid : Prop := Claim7.holds Tryd.pinned (.plain (OpenSpec.upto fnExactValidStartsSpec)) fnExactValidStartsUptoCard

/-- THE SECOND FORM's CARD OF 'laws.FnExactMeetsDeadline'. -/
def fnExactMeetsDeadlineUptoCard : Claim7 := { stood := { row := fnExactMeetsDeadlineUptoRow, standIns := [], harness := (true, "37d122861b5ec1871380f20c550d25a64537571dcb9689e04e0b4be772f43c0c"), looks := true }, kinds := [], alts := [], laidByText := true, laidKinds := [.data], laidTests := true, laidLooks := .later }
def FnExactMeetsDeadlineUptoCardSaid : Prop := Claim7.holds Tryd.pinned (.plain (OpenSpec.upto fnExactMeetsDeadlineSpec)) fnExactMeetsDeadlineUptoCard

/-- THE SECOND FORM's CARD OF 'laws.FnExactEndTime'. -/
def fnExactEndTimeUptoCard : Claim7 := { stood := { row := fnExactEndTimeUptoRow, standIns := [], harness := (true, "37d122861b5ec1871380f20c550d25a64537571dcb9689e04e0b4be772f43c0c"), looks := true }, kinds := [], alts := [], laidByText := true, laidKinds := [.data], laidTests := true, laidLooks := .later }
def FnExactEndTimeUptoCardSaid : Prop := Claim7.holds Tryd.pinned (.plain (OpenSpec.upto fnExactEndTimeSpec)) fnExactEndTimeUptoCard

/-- THE SECOND FORM's CARD OF 'laws.FnExactRunningAt'. -/
def fnExactRunningAtUptoCard : Claim7 := { stood := { row := fnExactRunningAtUptoRow, standIns := [], harness := (true, "37d122861b5ec1871380f20c550d25a64537571dcb9689e04e0b4be772f43c0c"), looks := true }, kinds := [], alts := [], laidByText := true, laidKinds := [.data], laidTests := true, laidLooks := .later }
def FnExactRunningAtUptoCardSaid : Prop := Claim7.holds Tryd.pinned (.plain (OpenSpec.upto fnExactRunningAtSpec)) fnExactRunningAtUptoCard

/-- THE SECOND FORM's CARD OF 'laws.FnExactCancelAt'. -/
def fnExactCancelAtUptoCard : Claim7 := { stood := { row := fnExactCancelAtUptoRow, standIns := [], harness := (true, "37d122861b5ec1871380f20c550d25a64537571dcb9689e04e0b4be772f43c0c"), looks := true }, kinds := [], alts := [], laidByText := true, laidKinds := [.data], laidTests := true, laidLooks := .later }
def FnExactCancelAtUptoCardSaid : Prop := Claim7.holds Tryd.pinned (.plain (OpenSpec.upto fnExactCancelAtSpec)) fnExactCancelAtUptoCard

/-- THE SECOND FORM's CARD OF 'laws.FnExactLogOf'. -/
def fnExactLogOfUptoCard : Claim7 := { stood := { row := fnExactLogOfUptoRow, standIns := [], harness := (true, "37d122861b5ec1871380f20c550d25a64537571dcb9689e04e0b4be772f43c0c"), looks := true }, kinds := [], alts := [], laidByText := true, laidKinds := [.data], laidTests := true, laidLooks := .later }
def FnExactLogOfUptoCardSaid : Prop := Claim7.holds Tryd.pinned (.plain (OpenSpec.upto fnExactLogOfSpec)) fnExactLogOfUptoCard

/-- THE SECOND FORM's CARD OF 'laws.FnExactLateTasks'. -/
def fnExactLateTasksUptoCard : Claim7 := { stood := { row := fnExactLateTasksUptoRow, standIns := [], harness := (true, "37d122861b5ec1871380f20c550d25a64537571dcb9689e04e0b4be772f43c0c"), looks := true }, kinds := [], alts := [], laidByText := true, laidKinds := [.data], laidTests := true, laidLooks := .later }
def FnExactLateTasksUptoCardSaid : Prop := Claim7.holds Tryd.pinned (.plain (OpenSpec.upto fnExactLateTasksSpec)) fnExactLateTasksUptoCard

/-- THE SECOND FORM's CARD OF 'laws.FnEndTimeLeast'. -/
def fnEndTimeLeastUptoCard : Claim7 := { stood := { row := fnEndTimeLeastUptoRow, standIns := [], harness := (true, "37d122861b5ec1871380f20c550d25a64537571dcb9689e04e0b4be772f43c0c"), looks := true }, kinds := [], alts := [], laidByText := true, laidKinds := [.data], laidTests := true, laidLooks := .later }
def FnEndTimeLeastUptoCardSaid : Prop := Claim7.holds Tryd.pinned (.plain (OpenSpec.upto fnEndTimeLeastSpec)) fnEndTimeLeastUptoCard

/-- THE SECOND FORM's CARD OF 'laws.FnLeastTimeMore'. -/
def fnLeastTimeMoreUptoCard : Claim7 := { stood := { row := fnLeastTimeMoreUptoRow, standIns := [], harness := (true, "37d122861b5ec1871380f20c550d25a64537571dcb9689e04e0b4be772f43c0c"), looks := true }, kinds := [], alts := [], laidByText := true, laidKinds := [.data], laidTests := true, laidLooks := .later }
def FnLeastTimeMoreUptoCardSaid : Prop := Claim7.holds Tryd.pinned (.plain (OpenSpec.upto fnLeastTimeMoreSpec)) fnLeastTimeMoreUptoCard
end Rows
end Go.Proofs.YtdjdfbfcjajlkaaDoor
