/- Parts of the proof, laid as one text by a program of mine. -/
import Derived.Test.YtlapphhcficbjaaDoorKdc21
import Derived.Test.YtlapphhcficbjaaDoorCards
namespace Go.Proofs.YtlapphhcficbjaaDoor.fnLogOfTimes
open Go.RowKit
theorem rowC1 : Tryd.pinned.checked.prog.inPlace 6 = Rows.fnLogOfTimesRow.inPlace := by kernel_rfl
theorem rowC2 : Tryd.pinned.checked.prog.unfollowed 6 = Rows.fnLogOfTimesRow.unfollowed := by kernel_rfl
theorem rowC3 : Tryd.pinned.checked.prog.recurses 6 = Rows.fnLogOfTimesRow.recurses := by kernel_rfl
theorem rowC4 : Tryd.pinned.checked.prog.varsNamed 6 = Rows.fnLogOfTimesRow.named := by kernel_rfl
theorem rowClosed : joinedFacts Tryd.pinned.checked.prog 6 Tryd.f6 Rows.fnLogOfTimesSpec Rows.fnLogOfTimesRow = true := by
 unfold joinedFacts
 rw [rowC1, rowC2, rowC3, rowC4, seatMay, seatLifts, seatHeard, seatMake, seatKeys, seatLaid, seatMaps]
 kernel_rfl
theorem rowG1 : false = Rows.fnLogOfTimesRow.goesBy Tryd.pinned.checked.prog := by kernel_rfl
theorem rowG2 : Rows.fnLogOfTimesRow.wfByText (OpenSpec.ofChange Rows.fnLogOfTimesSpec) = true := by kernel_rfl
theorem rowG5 : Tryd.prog.funcNamed "loop.example/buildscheduler/laws.FnLogOfTimes" = some 6 := by kernel_rfl
end Go.Proofs.YtlapphhcficbjaaDoor.fnLogOfTimes
