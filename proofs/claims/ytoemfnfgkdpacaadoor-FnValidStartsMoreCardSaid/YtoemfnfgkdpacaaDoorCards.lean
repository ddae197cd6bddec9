/-
  DERIVED. GIVEN WITH THE SEED: THE CARDS: each row of YtoemfnfgkdpacaaDoorRows.lean that lists a variable, with what it lists TIED to the program's text (the seventh form; the later family's looks); each row that meets fmt, with fmt's text TOLD by the authors' own Lean function (tested against real Go, not proved from fmt's source: count such statements apart). THE CARD IS WHAT COUNTS. Prove the row's statement (the work); the ties are given (YtoemfnfgkdpacaaDoorTie.lean); close each card by the builder's one call (the guide's Derived/Test/ToyasCard.lean, 'card_holds'). Laid BY PROGRAM, IN A SANDBOX (cutbox-door.mjs). By AI agents, Wed Nov 11 2026. No macro, syntax, notation, axiom, sorry.
-/
import Derived.Test.YtoemfnfgkdpacaaDoorRows
import GoSem.ClaimSeven
namespace Go.Proofs.YtoemfnfgkdpacaaDoor
namespace Rows

/-- THE TIED CARD OF 'laws.FnExactValidStarts'. -/
def fnExactValidStartsCard : Claim7 := { stood := { row := fnExactValidStartsRow, standIns := [], harness := (true, "4539a1808be9cf73a790ece4aacb785634c157cf056c708478a6087204b7c955"), looks := false }, kinds := [], alts := [], laidByText := true, laidKinds := [.data], laidTests := true, laidLooks := .later }
def FnExactValidStartsCardSaid : Prop := Claim7.holds Tryd.pinned (.plain (OpenSpec.ofChange fnExactValidStartsSpec)) fnExactValidStartsCard

/-- THE TIED CARD OF 'laws.FnExactMeetsDeadline'. -/
def fnExactMeetsDeadlineCard : Claim7 := { stood := { row := fnExactMeetsDeadlineRow, standIns := [], harness := (true, "4539a1808be9cf73a790ece4aacb785634c157cf056c708478a6087204b7c955"), looks := false }, kinds := [], alts := [], laidByText := true, laidKinds := [.data], laidTests := true, laidLooks := .later }
def FnExactMeetsDeadlineCardSaid : Prop := Claim7.holds Tryd.pinned (.plain (OpenSpec.ofChange fnExactMeetsDeadlineSpec)) fnExactMeetsDeadlineCard

/-- THE TIED CARD OF 'laws.FnExactEndTime'. -/
def fnExactEndTimeCard : Claim7 := { stood := { row := fnExactEndTimeRow, standIns := [], harness := (true, "4539a1808be9cf73a790ece4aacb785634c157cf056c708478a6087204b7c955"), looks := false }, kinds := [], alts := [], laidByText := true, laidKinds := [.data], laidTests := true, laidLooks := .later }
def FnExactEndTimeCardSaid : Prop := Claim7.holds Tryd.pinned (.plain (OpenSpec.ofChange fnExactEndTimeSpec)) fnExactEndTimeCard

/-- THE TIED CARD OF 'laws.FnExactRunningAt'. -/
def fnExactRunningAtCard : Claim7 := { stood := { row := fnExactRunningAtRow, standIns := [], harness := (true, "4539a1808be9cf73a790ece4aacb785634c157cf056c708478a6087204b7c955"), looks := false }, kinds := [], alts := [], laidByText := true, laidKinds := [.data], laidTests := true, laidLooks := .later }
def FnExactRunningAtCardSaid : Prop := Claim7.holds Tryd.pinned (.plain (OpenSpec.ofChange fnExactRunningAtSpec)) fnExactRunningAtCard

/-- THE TIED CARD OF 'laws.FnExactCancelAt'. -/
def fnExactCancelAtCard : Claim7 := { stood := { row := fnExactCancelAtRow, standIns := [], harness := (true, "4539a1808be9cf73a790ece4aacb785634c157cf056c708478a6087204b7c955"), looks := false }, kinds := [], alts := [], laidByText := true, laidKinds := [.data], laidTests := true, laidLooks := .later }
def FnExactCancelAtCardSaid : Prop := Claim7.holds Tryd.pinned (.plain (OpenSpec.ofChange fnExactCancelAtSpec)) fnExactCancelAtCard

/-- THE TIED CARD OF 'laws.FnExactLogOf'. -/
def fnExactLogOfCard : Claim7 := { stood := { row := fnExactLogOfRow, standIns := [], harness := (true, "4539a1808be9cf73a790ece4aacb785634c157cf056c708478a6087204b7c955"), looks := false }, kinds := [], alts := [], laidByText := true, laidKinds := [.data], laidTests := true, laidLooks := .later }
def FnExactLogOfCardSaid : Prop := Claim7.holds Tryd.pinned (.plain (OpenSpec.ofChange fnExactLogOfSpec)) fnExactLogOfCard

/-- THE TIED CARD OF 'laws.FnExactLateTasks'. -/
def fnExactLateTasksCard : Claim7 := { stood := { row := fnExactLateTasksRow, standIns := [], harness := (true, "4539a1808be9cf73a790ece4aacb785634c157cf056c708478a6087204b7c955"), looks := false }, kinds := [], alts := [], laidByText := true, laidKinds := [.data], laidTests := true, laidLooks := .later }
def FnExactLateTasksCardSaid : Prop := Claim7.holds Tryd.pinned (.plain (OpenSpec.ofChange fnExactLateTasksSpec)) fnExactLateTasksCard

/-- THE TIED CARD OF 'laws.FnExactChartLines'. -/
def fnExactChartLinesCard : Claim7 := { stood := { row := fnExactChartLinesRow, standIns := [], harness := (true, "4539a1808be9cf73a790ece4aacb785634c157cf056c708478a6087204b7c955"), looks := false }, kinds := [], alts := [], laidByText := true, laidKinds := [.data], laidTests := true, laidLooks := .later }
def FnExactChartLinesCardSaid : Prop := Claim7.holds Tryd.pinned (.plain (OpenSpec.ofChange fnExactChartLinesSpec)) fnExactChartLinesCard

/-- THE TIED CARD OF 'laws.FnValidStarts'. -/
def fnValidStartsCard : Claim7 := { stood := { row := fnValidStartsRow, standIns := [], harness := (true, "4539a1808be9cf73a790ece4aacb785634c157cf056c708478a6087204b7c955"), looks := false }, kinds := [], alts := [], laidByText := true, laidKinds := [.data], laidTests := true, laidLooks := .later }
def FnValidStartsCardSaid : Prop := Claim7.holds Tryd.pinned (.plain (OpenSpec.ofChange fnValidStartsSpec)) fnValidStartsCard

/-- THE TIED CARD OF 'laws.FnValidStartsMore'. -/
def fnValidStartsMoreCard : Claim7 := { stood := { row := fnValidStartsMoreRow, standIns := [], harness := (true, "4539a1808be9cf73a790ece4aacb785634c157cf056c708478a6087204b7c955"), looks := false }, kinds := [], alts := [], laidByText := true, laidKinds := [.data], laidTests := true, laidLooks := .later }
def FnValidStartsMoreCardSaid : Prop := Claim7.holds Tryd.pinned (.plain (OpenSpec.ofChange fnValidStartsMoreSpec)) fnValidStartsMoreCard

/-- THE TIED CARD OF 'laws.FnValidStartsRow'. -/
def fnValidStartsRowCard : Claim7 := { stood := { row := fnValidStartsRowRow, standIns := [], harness := (true, "4539a1808be9cf73a790ece4aacb785634c157cf056c708478a6087204b7c955"), looks := false }, kinds := [], alts := [], laidByText := true, laidKinds := [.data], laidTests := true, laidLooks := .later }
def FnValidStartsRowCardSaid : Prop := Claim7.holds Tryd.pinned (.plain (OpenSpec.ofChange fnValidStartsRowSpec)) fnValidStartsRowCard

/-- THE TIED CARD OF 'laws.FnValidStartsHead'. -/
def fnValidStartsHeadCard : Claim7 := { stood := { row := fnValidStartsHeadRow, standIns := [], harness := (true, "4539a1808be9cf73a790ece4aacb785634c157cf056c708478a6087204b7c955"), looks := false }, kinds := [], alts := [], laidByText := true, laidKinds := [.data], laidTests := true, laidLooks := .later }
def FnValidStartsHeadCardSaid : Prop := Claim7.holds Tryd.pinned (.plain (OpenSpec.ofChange fnValidStartsHeadSpec)) fnValidStartsHeadCard

/-- THE SECOND FORM's CARD OF 'laws.FnExactValidStarts'. -/
def fnExactValidStartsUptoCard : Claim7 := { stood := { row := fnExactValidStartsUptoRow, standIns := [], harness := (true, "4539a1808be9cf73a790ece4aacb785634c157cf056c708478a6087204b7c955"), looks := false }, kinds := [], alts := [], laidByText := true, laidKinds := [.data], laidTests := true, laidLooks := .later }
def FnExactValidStartsUptoCardSaid : Prop := Claim7.holds Tryd.pinned (.plain (OpenSpec.upto fnExactValidStartsSpec)) fnExactValidStartsUptoCard

/-- THE SECOND FORM's CARD OF 'laws.FnExactMeetsDeadline'. -/
def fnExactMeetsDeadlineUptoCard : Claim7 := { stood := { row := fnExactMeetsDeadlineUptoRow, standIns := [], harness := (true, "4539a1808be9cf73a790ece4aacb785634c157cf056c708478a6087204b7c955"), looks := false }, kinds := [], alts := [], laidByText := true, laidKinds := [.data], laidTests := true, laidLooks := .later }
def FnExactMeetsDeadlineUptoCardSaid : Prop := Claim7.holds Tryd.pinned (.plain (OpenSpec.upto fnExactMeetsDeadlineSpec)) fnExactMeetsDeadlineUptoCard

/-- THE SECOND FORM's CARD OF 'laws.FnExactEndTime'. -/
def fnExactEndTimeUptoCard : Claim7 := { stood := { row := fnExactEndTimeUptoRow, standIns := [], harness := (true, "4539a1808be9cf73a790ece4aacb785634c157cf056c708478a6087204b7c955"), looks := false }, kinds := [], alts := [], laidByText := true, laidKinds := [.data], laidTests := true, laidLooks := .later }
def FnExactEndTimeUptoCardSaid : Prop := Claim7.holds Tryd.pinned (.plain (OpenSpec.upto fnExactEndTimeSpec)) fnExactEndTimeUptoCard

/-- THE SECOND FORM's CARD OF 'laws.FnExactRunningAt'. -/
def fnExactRunningAtUptoCard : Claim7 := { stood := { row := fnExactRunningAtUptoRow, standIns := [], harness := (true, "4539a1808be9cf73a790ece4aacb785634c157cf056c708478a6087204b7c955"), looks := false }, kinds := [], alts := [], laidByText := true, laidKinds := [.data], laidTests := true, laidLooks := .later }
def FnExactRunningAtUptoCardSaid : Prop := Claim7.holds Tryd.pinned (.plain (OpenSpec.upto fnExactRunningAtSpec)) fnExactRunningAtUptoCard

/-- THE SECOND FORM's CARD OF 'laws.FnExactCancelAt'. -/
def fnExactCancelAtUptoCard : Claim7 := { stood := { row := fnExactCancelAtUptoRow, standIns := [], harness := (true, "4539a1808be9cf73a790ece4aacb785634c157cf056c708478a6087204b7c955"), looks := false }, kinds := [], alts := [], laidByText := true, laidKinds := [.data], laidTests := true, laidLooks := .later }
def FnExactCancelAtUptoCardSaid : Prop := Claim7.holds Tryd.pinned (.plain (OpenSpec.upto fnExactCancelAtSpec)) fnExactCancelAtUptoCard

/-- THE SECOND FORM's CARD OF 'laws.FnExactLogOf'. -/
def fnExactLogOfUptoCard : Claim7 := { stood := { row := fnExactLogOfUptoRow, standIns := [], harness := (true, "4539a1808be9cf73a790ece4aacb785634c157cf056c708478a6087204b7c955"), looks := false }, kinds := [], alts := [], laidByText := true, laidKinds := [.data], laidTests := true, laidLooks := .later }
def FnExactLogOfUptoCardSaid : Prop := Claim7.holds Tryd.pinned (.plain (OpenSpec.upto fnExactLogOfSpec)) fnExactLogOfUptoCard

/-- THE SECOND FORM's CARD OF 'laws.FnExactLateTasks'. -/
def fnExactLateTasksUptoCard : Claim7 := { stood := { row := fnExactLateTasksUptoRow, standIns := [], harness := (true, "4539a1808be9cf73a790ece4aacb785634c157cf056c708478a6087204b7c955"), looks := false }, kinds := [], alts := [], laidByText := true, laidKinds := [.data], laidTests := true, laidLooks := .later }
def FnExactLateTasksUptoCardSaid : Prop := Claim7.holds Tryd.pinned (.plain (OpenSpec.upto fnExactLateTasksSpec)) fnExactLateTasksUptoCard

/-- THE SECOND FORM's CARD OF 'laws.FnExactChartLines'. -/
def fnExactChartLinesUptoCard : Claim7 := { stood := { row := fnExactChartLinesUptoRow, standIns := [], harness := (true, "4539a1808be9cf73a790ece4aacb785634c157cf056c708478a6087204b7c955"), looks := false }, kinds := [], alts := [], laidByText := true, laidKinds := [.data], laidTests := true, laidLooks := .later }
def FnExactChartLinesUptoCardSaid : Prop := Claim7.holds Tryd.pinned (.plain (OpenSpec.upto fnExactChartLinesSpec)) fnExactChartLinesUptoCard

/-- THE SECOND FORM's CARD OF 'laws.FnValidStarts'. -/
def fnValidStartsUptoCard : Claim7 := { stood := { row := fnValidStartsUptoRow, standIns := [], harness := (true, "4539a1808be9cf73a790ece4aacb785634c157cf056c708478a6087204b7c955"), looks := false }, kinds := [], alts := [], laidByText := true, laidKinds := [.data], laidTests := true, laidLooks := .later }
def FnValidStartsUptoCardSaid : Prop := Claim7.holds Tryd.pinned (.plain (OpenSpec.upto fnValidStartsSpec)) fnValidStartsUptoCard

/-- THE SECOND FORM's CARD OF 'laws.FnValidStartsMore'. -/
def fnValidStartsMoreUptoCard : Claim7 := { stood := { row := fnValidStartsMoreUptoRow, standIns := [], harness := (true, "4539a1808be9cf73a790ece4aacb785634c157cf056c708478a6087204b7c955"), looks := false }, kinds := [], alts := [], laidByText := true, laidKinds := [.data], laidTests := true, laidLooks := .later }
def FnValidStartsMoreUptoCardSaid : Prop := Claim7.holds Tryd.pinned (.plain (OpenSpec.upto fnValidStartsMoreSpec)) fnValidStartsMoreUptoCard

/-- THE SECOND FORM's CARD OF 'laws.FnValidStartsRow'. -/
def fnValidStartsRowUptoCard : Claim7 := { stood := { row := fnValidStartsRowUptoRow, standIns := [], harness := (true, "4539a1808be9cf73a790ece4aacb785634c157cf056c708478a6087204b7c955"), looks := false }, kinds := [], alts := [], laidByText := true, laidKinds := [.data], laidTests := true, laidLooks := .later }
def FnValidStartsRowUptoCardSaid : Prop := Claim7.holds Tryd.pinned (.plain (OpenSpec.upto fnValidStartsRowSpec)) fnValidStartsRowUptoCard

/-- THE SECOND FORM's CARD OF 'laws.FnValidStartsHead'. -/
def fnValidStartsHeadUptoCard : Claim7 := { stood := { row := fnValidStartsHeadUptoRow, standIns := [], harness := (true, "4539a1808be9cf73a790ece4aacb785634c157cf056c708478a6087204b7c955"), looks := false }, kinds := [], alts := [], laidByText := true, laidKinds := [.data], laidTests := true, laidLooks := .later }
def FnValidStartsHeadUptoCardSaid : Prop := Claim7.holds Tryd.pinned (.plain (OpenSpec.upto fnValidStartsHeadSpec)) fnValidStartsHeadUptoCard
end Rows
end Go.Proofs.YtoemfnfgkdpacaaDoor
