/- Parts of the proof, laid as one text by a program of mine. -/
import Derived.Test.YtlapphhcficbjaaDoorKfc20
import Derived.Test.YtlapphhcficbjaaDoorCards
namespace Go.Proofs.YtlapphhcficbjaaDoor.fnExactChartLines
open Go.RowKit
theorem rowC1 : Tryd.pinned.checked.prog.inPlace 9 = Rows.fnExactChartLinesRow.inPlace := by kernel_rfl
theorem rowC2 : Tryd.pinned.checked.prog.unfollowed 9 = Rows.fnExactChartLinesRow.unfollowed := by kernel_rfl
theorem rowC3 : Tryd.pinned.checked.prog.recurses 9 = Rows.fnExactChartLinesRow.recurses := by kernel_rfl
theorem rowC4 : Tryd.pinned.checked.prog.varsNamed 9 = Rows.fnExactChartLinesRow.named := by kernel_rfl
theorem rowClosed : joinedFacts Tryd.pinned.checked.prog 9 Tryd.f9 Rows.fnExactChartLinesSpec Rows.fnExactChartLinesRow = true := by
 unfold joinedFacts
 rw [rowC1, rowC2, rowC3, rowC4, seatMay, seatLifts, seatHeard, seatMake, seatKeys, seatLaid, seatMaps]
 kernel_rfl
theorem rowG1 : false = Rows.fnExactChartLinesRow.goesBy Tryd.pinned.checked.prog := by kernel_rfl
theorem rowG2 : Rows.fnExactChartLinesRow.wfByText (OpenSpec.ofChange Rows.fnExactChartLinesSpec) = true := by kernel_rfl
theorem rowG5 : Tryd.prog.funcNamed "loop.example/buildscheduler/laws.FnExactChartLines" = some 9 := by kernel_rfl
end Go.Proofs.YtlapphhcficbjaaDoor.fnExactChartLines
