/- Parts of the proof, laid as one text by a program of mine. -/
import Derived.Test.YtdjdfbfcjajlkaaDoorKcc16
import Derived.Test.YtdjdfbfcjajlkaaDoorCards
namespace Go.Proofs.YtdjdfbfcjajlkaaDoor.fnExactCancelAt
open Go.RowKit
theorem rowC1 : Tryd.pinned.checked.prog.inPlace 9 = Rows.fnExactCancelAtRow.inPlace := by kernel_rfl
theorem rowC2 : Tryd.pinned.checked.prog.unfollowed 9 = Rows.fnExactCancelAtRow.unfollowed := by kernel_rfl
theorem rowC3 : Tryd.pinned.checked.prog.recurses 9 = Rows.fnExactCancelAtRow.recurses := by kernel_rfl
theorem rowC4 : Tryd.pinned.checked.prog.varsNamed 9 = Rows.fnExactCancelAtRow.named := by kernel_rfl
theorem rowClosed : joinedFacts Tryd.pinned.checked.prog 9 Tryd.f9 Rows.fnExactCancelAtSpec Rows.fnExactCancelAtRow = true := by
 unfold joinedFacts
 rw [rowC1, rowC2, rowC3, rowC4, seatMay, seatLifts, seatHeard, seatMake, seatKeys, seatLaid, seatMaps]
 kernel_rfl
theorem rowG1 : false = Rows.fnExactCancelAtRow.goesBy Tryd.pinned.checked.prog := by kernel_rfl
theorem rowG2 : Rows.fnExactCancelAtRow.wfByText (OpenSpec.ofChange Rows.fnExactCancelAtSpec) = true := by kernel_rfl
theorem rowG5 : Tryd.prog.funcNamed "loop.example/buildscheduler/laws.FnExactCancelAt" = some 9 := by kernel_rfl
end Go.Proofs.YtdjdfbfcjajlkaaDoor.fnExactCancelAt
