/-
  DERIVED. GIVEN WITH THE SEED: THE CARDS: each row of YtlapphhcficbjaaGreatDoorRows.lean that lists a variable, with what it lists TIED to the program's text (the seventh form; the later family's looks); each row that meets fmt, with fmt's text TOLD by the authors' own Lean function (tested against real Go, not proved from fmt's source: count such statements apart). THE CARD IS WHAT COUNTS. Prove the row's statement (the work); the ties are given (YtlapphhcficbjaaGreatDoorTie.lean); close each card by the builder's one call (the guide's Derived/Test/ToyasCard.lean, 'card_holds'). Laid BY PROGRAM, IN A SANDBOX (cutbox-door.mjs). By AI agents, Wed Nov 11 2026. No macro, syntax, notation, axiom, sorry.
-/
import Derived.Test.YtlapphhcficbjaaGreatDoorRows
import GoSem.ClaimSeven
namespace Go.Proofs.YtlapphhcficbjaaGreatDoor
namespace Rows

/-- THE TIED CARD OF 'laws.FnChartLinesRun'. -/
def fnChartLinesRunCard : Claim7 := { stood := { row := fnChartLinesRunRow, standIns := [], harness := (true, "ada7ae28f2d4896dda942ad55cab5875ac75ada8e4571309e7fa83161ad58530"), looks := true }, kinds := [], alts := [], laidByText := true, laidKinds := [.data], laidTests := true, laidLooks := .later }
def FnChartLinesRunCardSaid : Prop := Claim7.holds Tryz.pinned (.plain (OpenSpec.ofChange fnChartLinesRunSpec)) fnChartLinesRunCard

/-- THE TIED CARD OF 'laws.FnBestTime'. -/
def fnBestTimeCard : Claim7 := { stood := { row := fnBestTimeRow, standIns := [], harness := (true, "ada7ae28f2d4896dda942ad55cab5875ac75ada8e4571309e7fa83161ad58530"), looks := true }, kinds := [], alts := [], laidByText := true, laidKinds := [.data], laidTests := true, laidLooks := .later }
def FnBestTimeCardSaid : Prop := Claim7.holds Tryz.pinned (.plain (OpenSpec.ofChange fnBestTimeSpec)) fnBestTimeCard

/-- THE TIED CARD OF 'laws.FnMostTogetherOne'. -/
def fnMostTogetherOneCard : Claim7 := { stood := { row := fnMostTogetherOneRow, standIns := [], harness := (true, "ada7ae28f2d4896dda942ad55cab5875ac75ada8e4571309e7fa83161ad58530"), looks := true }, kinds := [], alts := [], laidByText := true, laidKinds := [.data], laidTests := true, laidLooks := .later }
def FnMostTogetherOneCardSaid : Prop := Claim7.holds Tryz.pinned (.plain (OpenSpec.ofChange fnMostTogetherOneSpec)) fnMostTogetherOneCard

/-- THE SECOND FORM's CARD OF 'laws.FnChartLinesRun'. -/
def fnChartLinesRunUptoCard : Claim7 := { stood := { row := fnChartLinesRunUptoRow, standIns := [], harness := (true, "ada7ae28f2d4896dda942ad55cab5875ac75ada8e4571309e7fa83161ad58530"), looks := true }, kinds := [], alts := [], laidByText := true, laidKinds := [.data], laidTests := true, laidLooks := .later }
def FnChartLinesRunUptoCardSaid : Prop := Claim7.holds Tryz.pinned (.plain (OpenSpec.upto fnChartLinesRunSpec)) fnChartLinesRunUptoCard

/-- THE SECOND FORM's CARD OF 'laws.FnBestTime'. -/
def fnBestTimeUptoCard : Claim7 := { stood := { row := fnBestTimeUptoRow, standIns := [], harness := (true, "ada7ae28f2d4896dda942ad55cab5875ac75ada8e4571309e7fa83161ad58530"), looks := true }, kinds := [], alts := [], laidByText := true, laidKinds := [.data], laidTests := true, laidLooks := .later }
def FnBestTimeUptoCardSaid : Prop := Claim7.holds Tryz.pinned (.plain (OpenSpec.upto fnBestTimeSpec)) fnBestTimeUptoCard

/-- THE SECOND FORM's CARD OF 'laws.FnMostTogetherOne'. -/
def fnMostTogetherOneUptoCard : Claim7 := { stood := { row := fnMostTogetherOneUptoRow, standIns := [], harness := (true, "ada7ae28f2d4896dda942ad55cab5875ac75ada8e4571309e7fa83161ad58530"), looks := true }, kinds := [], alts := [], laidByText := true, laidKinds := [.data], laidTests := true, laidLooks := .later }
def FnMostTogetherOneUptoCardSaid : Prop := Claim7.holds Tryz.pinned (.plain (OpenSpec.upto fnMostTogetherOneSpec)) fnMostTogetherOneUptoCard
end Rows
end Go.Proofs.YtlapphhcficbjaaGreatDoor
