/-
  DERIVED. GIVEN WITH THE SEED: THE CARDS: each row of YtlapphhcficbjaaDoorRows.lean that lists a variable, with what it lists TIED to the program's text (the seventh form; the later family's looks); each row that meets fmt, with fmt's text TOLD by the authors' own Lean function (tested against real Go, not proved from fmt's source: count such statements apart). THE CARD IS WHAT COUNTS. Prove the row's statement (the work); the ties are given (YtlapphhcficbjaaDoorTie.lean); close each card by the builder's one call (the guide's Derived/Test/ToyasCard.lean, 'card_holds'). Laid BY PROGRAM, IN A SANDBOX (cutbox-door.mjs). By AI agents, Wed Nov 11 2026. No macro, syntax, notation, axiom, sorry.
-/
import Derived.Test.YtlapphhcficbjaaDoorRows
import GoSem.ClaimSeven
namespace Go.Proofs.YtlapphhcficbjaaDoor
namespace Rows

/-- THE TIED CARD OF 'laws.FnOrderStartsPlan'. -/
def fnOrderStartsPlanCard : Claim7 := { stood := { row := fnOrderStartsPlanRow, standIns := [], harness := (true, "1b5795ec53c907a5802001cf7d7ee82e1fcb965da5921e59e6cbe3372e8d9fbc"), looks := true }, kinds := [], alts := [], laidByText := true, laidKinds := [.data], laidTests := true, laidLooks := .later }
def FnOrderStartsPlanCardSaid : Prop := Claim7.holds Tryd.pinned (.plain (OpenSpec.ofChange fnOrderStartsPlanSpec)) fnOrderStartsPlanCard

/-- THE TIED CARD OF 'laws.FnOrderStartsTop'. -/
def fnOrderStartsTopCard : Claim7 := { stood := { row := fnOrderStartsTopRow, standIns := [], harness := (true, "1b5795ec53c907a5802001cf7d7ee82e1fcb965da5921e59e6cbe3372e8d9fbc"), looks := true }, kinds := [], alts := [], laidByText := true, laidKinds := [.data], laidTests := true, laidLooks := .later }
def FnOrderStartsTopCardSaid : Prop := Claim7.holds Tryd.pinned (.plain (OpenSpec.ofChange fnOrderStartsTopSpec)) fnOrderStartsTopCard

/-- THE TIED CARD OF 'laws.FnOrderStarts'. -/
def fnOrderStartsCard : Claim7 := { stood := { row := fnOrderStartsRow, standIns := [], harness := (true, "1b5795ec53c907a5802001cf7d7ee82e1fcb965da5921e59e6cbe3372e8d9fbc"), looks := true }, kinds := [], alts := [], laidByText := true, laidKinds := [.data], laidTests := true, laidLooks := .later }
def FnOrderStartsCardSaid : Prop := Claim7.holds Tryd.pinned (.plain (OpenSpec.ofChange fnOrderStartsSpec)) fnOrderStartsCard

/-- THE TIED CARD OF 'laws.FnLogOfTimes'. -/
def fnLogOfTimesCard : Claim7 := { stood := { row := fnLogOfTimesRow, standIns := [], harness := (true, "1b5795ec53c907a5802001cf7d7ee82e1fcb965da5921e59e6cbe3372e8d9fbc"), looks := true }, kinds := [], alts := [], laidByText := true, laidKinds := [.data], laidTests := true, laidLooks := .later }
def FnLogOfTimesCardSaid : Prop := Claim7.holds Tryd.pinned (.plain (OpenSpec.ofChange fnLogOfTimesSpec)) fnLogOfTimesCard

/-- THE TIED CARD OF 'laws.FnBestTimeOrder'. -/
def fnBestTimeOrderCard : Claim7 := { stood := { row := fnBestTimeOrderRow, standIns := [], harness := (true, "1b5795ec53c907a5802001cf7d7ee82e1fcb965da5921e59e6cbe3372e8d9fbc"), looks := true }, kinds := [], alts := [], laidByText := true, laidKinds := [.data], laidTests := true, laidLooks := .later }
def FnBestTimeOrderCardSaid : Prop := Claim7.holds Tryd.pinned (.plain (OpenSpec.ofChange fnBestTimeOrderSpec)) fnBestTimeOrderCard

/-- THE TIED CARD OF 'laws.FnBestOrder'. -/
def fnBestOrderCard : Claim7 := { stood := { row := fnBestOrderRow, standIns := [], harness := (true, "1b5795ec53c907a5802001cf7d7ee82e1fcb965da5921e59e6cbe3372e8d9fbc"), looks := true }, kinds := [], alts := [], laidByText := true, laidKinds := [.data], laidTests := true, laidLooks := .later }
def FnBestOrderCardSaid : Prop := Claim7.holds Tryd.pinned (.plain (OpenSpec.ofChange fnBestOrderSpec)) fnBestOrderCard

/-- THE TIED CARD OF 'laws.FnExactChartLines'. -/
def fnExactChartLinesCard : Claim7 := { stood := { row := fnExactChartLinesRow, standIns := [], harness := (true, "1b5795ec53c907a5802001cf7d7ee82e1fcb965da5921e59e6cbe3372e8d9fbc"), looks := true }, kinds := [], alts := [], laidByText := true, laidKinds := [.data], laidTests := true, laidLooks := .later }
def FnExactChartLinesCardSaid : Prop := Claim7.holds Tryd.pinned (.plain (OpenSpec.ofChange fnExactChartLinesSpec)) fnExactChartLinesCard

/-- THE TIED CARD OF 'laws.FnChartLines'. -/
def fnChartLinesCard : Claim7 := { stood := { row := fnChartLinesRow, standIns := [], harness := (true, "1b5795ec53c907a5802001cf7d7ee82e1fcb965da5921e59e6cbe3372e8d9fbc"), looks := true }, kinds := [], alts := [], laidByText := true, laidKinds := [.data], laidTests := true, laidLooks := .later }
def FnChartLinesCardSaid : Prop := Claim7.holds Tryd.pinned (.plain (OpenSpec.ofChange fnChartLinesSpec)) fnChartLinesCard

/-- THE SECOND FORM's CARD OF 'laws.FnOrderStartsPlan'. -/
def fnOrderStartsPlanUptoCard : Claim7 := { stood := { row := fnOrderStartsPlanUptoRow, standIns := [], harness := (true, "1b5795ec53c907a5802001cf7d7ee82e1fcb965da5921e59e6cbe3372e8d9fbc"), looks := true }, kinds := [], alts := [], laidByText := true, laidKinds := [.data], laidTests := true, laidLooks := .later }
def FnOrderStartsPlanUptoCardSaid : Prop := Claim7.holds Tryd.pinned (.plain (OpenSpec.upto fnOrderStartsPlanSpec)) fnOrderStartsPlanUptoCard

/-- THE SECOND FORM's CARD OF 'laws.FnOrderStartsTop'. -/
def fnOrderStartsTopUptoCard : Claim7 := { stood := { row := fnOrderStartsTopUptoRow, standIns := [], harness := (true, "1b5795ec53c907a5802001cf7d7ee82e1fcb965da5921e59e6cbe3372e8d9fbc"), looks := true }, kinds := [], alts := [], laidByText := true, laidKinds := [.data], laidTests := true, laidLooks := .later }
def FnOrderStartsTopUptoCardSaid : Prop := Claim7.holds Tryd.pinned (.plain (OpenSpec.upto fnOrderStartsTopSpec)) fnOrderStartsTopUptoCard

/-- THE SECOND FORM's CARD OF 'laws.FnOrderStarts'. -/
def fnOrderStartsUptoCard : Claim7 := { stood := { row := fnOrderStartsUptoRow, standIns := [], harness := (true, "1b5795ec53c907a5802001cf7d7ee82e1fcb965da5921e59e6cbe3372e8d9fbc"), looks := true }, kinds := [], alts := [], laidByText := true, laidKinds := [.data], laidTests := true, laidLooks := .later }
def FnOrderStartsUptoCardSaid : Prop := Claim7.holds Tryd.pinned (.plain (OpenSpec.upto fnOrderStartsSpec)) fnOrderStartsUptoCard

/-- THE SECOND FORM's CARD OF 'laws.FnLogOfTimes'. -/
def fnLogOfTimesUptoCard : Claim7 := { stood := { row := fnLogOfTimesUptoRow, standIns := [], harness := (true, "1b5795ec53c907a5802001cf7d7ee82e1fcb965da5921e59e6cbe3372e8d9fbc"), looks := true }, kinds := [], alts := [], laidByText := true, laidKinds := [.data], laidTests := true, laidLooks := .later }
def FnLogOfTimesUptoCardSaid : Prop := Claim7.holds Tryd.pinned (.plain (OpenSpec.upto fnLogOfTimesSpec)) fnLogOfTimesUptoCard

/-- THE SECOND FORM's CARD OF 'laws.FnBestTimeOrder'. -/
def fnBestTimeOrderUptoCard : Claim7 := { stood := { row := fnBestTimeOrderUptoRow, standIns := [], harness := (true, "1b5795ec53c907a5802001cf7d7ee82e1fcb965da5921e59e6cbe3372e8d9fbc"), looks := true }, kinds := [], alts := [], laidByText := true, laidKinds := [.data], laidTests := true, laidLooks := .later }
def FnBestTimeOrderUptoCardSaid : Prop := Claim7.holds Tryd.pinned (.plain (OpenSpec.upto fnBestTimeOrderSpec)) fnBestTimeOrderUptoCard

/-- THE SECOND FORM's CARD OF 'laws.FnBestOrder'. -/
def fnBestOrderUptoCard : Claim7 := { stood := { row := fnBestOrderUptoRow, standIns := [], harness := (true, "1b5795ec53c907a5802001cf7d7ee82e1fcb965da5921e59e6cbe3372e8d9fbc"), looks := true }, kinds := [], alts := [], laidByText := true, laidKinds := [.data], laidTests := true, laidLooks := .later }
def FnBestOrderUptoCardSaid : Prop := Claim7.holds Tryd.pinned (.plain (OpenSpec.upto fnBestOrderSpec)) fnBestOrderUptoCard

/-- THE SECOND FORM's CARD OF 'laws.FnExactChartLines'. -/
def fnExactChartLinesUptoCard : Claim7 := { stood := { row := fnExactChartLinesUptoRow, standIns := [], harness := (true, "1b5795ec53c907a5802001cf7d7ee82e1fcb965da5921e59e6cbe3372e8d9fbc"), looks := true }, kinds := [], alts := [], laidByText := true, laidKinds := [.data], laidTests := true, laidLooks := .later }
def FnExactChartLinesUptoCardSaid : Prop := Claim7.holds Tryd.pinned (.plain (OpenSpec.upto fnExactChartLinesSpec)) fnExactChartLinesUptoCard

/-- THE SECOND FORM's CARD OF 'laws.FnChartLines'. -/
def fnChartLinesUptoCard : Claim7 := { stood := { row := fnChartLinesUptoRow, standIns := [], harness := (true, "1b5795ec53c907a5802001cf7d7ee82e1fcb965da5921e59e6cbe3372e8d9fbc"), looks := true }, kinds := [], alts := [], laidByText := true, laidKinds := [.data], laidTests := true, laidLooks := .later }
def FnChartLinesUptoCardSaid : Prop := Claim7.holds Tryd.pinned (.plain (OpenSpec.upto fnChartLinesSpec)) fnChartLinesUptoCard
end Rows
end Go.Proofs.YtlapphhcficbjaaDoor
