/- Parts of the proof, laid as one text by a program of mine. -/
import Derived.Test.YtlapphhcficbjaaGreatDoorKhc22
import Derived.Test.YtlapphhcficbjaaGreatDoorCards
namespace Go.Proofs.YtlapphhcficbjaaGreatDoor.fnChartLinesRun
open Go.RowKit
theorem rowC1 : Tryz.pinned.checked.prog.inPlace 3 = Rows.fnChartLinesRunRow.inPlace := by kernel_rfl
theorem rowC2 : Tryz.pinned.checked.prog.unfollowed 3 = Rows.fnChartLinesRunRow.unfollowed := by kernel_rfl
theorem rowC3 : Tryz.pinned.checked.prog.recurses 3 = Rows.fnChartLinesRunRow.recurses := by kernel_rfl
theorem rowC4 : Tryz.pinned.checked.prog.varsNamed 3 = Rows.fnChartLinesRunRow.named := by kernel_rfl
theorem rowClosed : joinedFacts Tryz.pinned.checked.prog 3 Tryz.f3 Rows.fnChartLinesRunSpec Rows.fnChartLinesRunRow = true := by
 unfold joinedFacts
 rw [rowC1, rowC2, rowC3, rowC4, seatMay, seatLifts, seatHeard, seatMake, seatKeys, seatLaid, seatMaps]
 kernel_rfl
theorem rowG1 : false = Rows.fnChartLinesRunRow.goesBy Tryz.pinned.checked.prog := by kernel_rfl
theorem rowG2 : Rows.fnChartLinesRunRow.wfByText (OpenSpec.ofChange Rows.fnChartLinesRunSpec) = true := by kernel_rfl
theorem rowG5 : Tryz.prog.funcNamed "loop.example/buildscheduler/laws.FnChartLinesRun" = some 3 := by kernel_rfl
end Go.Proofs.YtlapphhcficbjaaGreatDoor.fnChartLinesRun
