/- Parts of the proof, laid as one text by a program of mine. -/
import Derived.Test.YtdjdfbfcjajlkaaDoorKcc16
import Derived.Test.YtdjdfbfcjajlkaaDoorCards
namespace Go.Proofs.YtdjdfbfcjajlkaaDoor.fnExactRunningAt
open Go.RowKit
theorem rowC1 : Tryd.pinned.checked.prog.inPlace 8 = Rows.fnExactRunningAtRow.inPlace := by kernel_rfl
theorem rowC2 : Tryd.pinned.checked.prog.unfollowed 8 = Rows.fnExactRunningAtRow.unfollowed := by kernel_rfl
theorem rowC3 : Tryd.pinned.checked.prog.recurses 8 = Rows.fnExactRunningAtRow.recurses := by kernel_rfl
theorem rowC4 : Tryd.pinned.checked.prog.varsNamed 8 = Rows.fnExactRunningAtRow.named := by kernel_rfl
theorem rowClosed : joinedFacts Tryd.pinned.checked.prog 8 Tryd.f8 Rows.fnExactRunningAtSpec Rows.fnExactRunningAtRow = true := by
 unfold joinedFacts
 rw [rowC1, rowC2, rowC3, rowC4, seatMay, seatLifts, seatHeard, seatMake, seatKeys, seatLaid, seatMaps]
 kernel_rfl
theorem rowG1 : false = Rows.fnExactRunningAtRow.goesBy Tryd.pinned.checked.prog := by kernel_rfl
theorem rowG2 : Rows.fnExactRunningAtRow.wfByText (OpenSpec.ofChange Rows.fnExactRunningAtSpec) = true := by kernel_rfl
theorem rowG5 : Tryd.prog.funcNamed "loop.example/buildscheduler/laws.FnExactRunningAt" = some 8 := by kernel_rfl
end Go.Proofs.YtdjdfbfcjajlkaaDoor.fnExactRunningAt
