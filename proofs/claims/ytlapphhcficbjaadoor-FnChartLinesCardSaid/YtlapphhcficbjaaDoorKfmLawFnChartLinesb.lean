/- Parts of the proof, laid as one text by a program of mine. -/
import Derived.Test.YtlapphhcficbjaaDoorKfc20
import Derived.Test.YtlapphhcficbjaaDoorCards
namespace Go.Proofs.YtlapphhcficbjaaDoor.fnChartLines
open Go.RowKit
theorem rowC1 : Tryd.pinned.checked.prog.inPlace 10 = Rows.fnChartLinesRow.inPlace := by kernel_rfl
theorem rowC2 : Tryd.pinned.checked.prog.unfollowed 10 = Rows.fnChartLinesRow.unfollowed := by kernel_rfl
theorem rowC3 : Tryd.pinned.checked.prog.recurses 10 = Rows.fnChartLinesRow.recurses := by kernel_rfl
theorem rowC4 : Tryd.pinned.checked.prog.varsNamed 10 = Rows.fnChartLinesRow.named := by kernel_rfl
theorem rowClosed : joinedFacts Tryd.pinned.checked.prog 10 Tryd.f10 Rows.fnChartLinesSpec Rows.fnChartLinesRow = true := by
 unfold joinedFacts
 rw [rowC1, rowC2, rowC3, rowC4, seatMay, seatLifts, seatHeard, seatMake, seatKeys, seatLaid, seatMaps]
 kernel_rfl
theorem rowG1 : false = Rows.fnChartLinesRow.goesBy Tryd.pinned.checked.prog := by kernel_rfl
theorem rowG2 : Rows.fnChartLinesRow.wfByText (OpenSpec.ofChange Rows.fnChartLinesSpec) = true := by kernel_rfl
theorem rowG5 : Tryd.prog.funcNamed "loop.example/buildscheduler/laws.FnChartLines" = some 10 := by kernel_rfl
end Go.Proofs.YtlapphhcficbjaaDoor.fnChartLines
